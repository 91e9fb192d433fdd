/- The engine's operations are the model's: equality, comparisons. -/
import Derived.Test.YtmhehkkbmkmlkaaGreatEngC
import Derived.Laws.StructEq
import Derived.ChangeKeysEq
import Derived.Laws.Tables
import Derived.Laws.AppendOwn
namespace Go.Eng

/-- what is told of the symbols is so -/
def FactOK (P : Program) (sig : Nat → Value) (f : Fact) : Prop :=
  (f.tag = 100 → ∀ ts t w, lenKd P ts = .str → ∃ x, (Builtin.len_ ts t #[sig f.x]).run P w = .ok x w ∧ ∀ c : Cx, c.sig = sig → V c f.res x) ∧
  (∀ op t w, f.tag = tagOf op → ∃ x, (Go.binOp op t (sig f.x) (.int .i64 f.y)).run P w = .ok x w ∧ ∀ c : Cx, c.sig = sig → V c f.res x)
def FactsOK (E : Env) (c : Cx) : Prop := ∀ f ∈ E.facts, FactOK E.P c.sig f
theorem FactsOK.mono {E : Env} {c d : Cx} (h : c.Le d) (hf : FactsOK E c) : FactsOK E d := fun f hm => by rw [h.sig]; exact hf f hm

section
variable {E : Env} {c : Cx} {H : Heap} {w : World}

theorem kEq_spec' {j k : IntKind} : kEq j k = decide (j = k) := by cases j <;> cases k <;> rfl

theorem sEq_bytes {a b : List Nat} {x y : ByteArray} (ha : x.data.toList.map UInt8.toNat = a) (hb : y.data.toList.map UInt8.toNat = b) : sEq a b = (x.toList == y.toList) := by
  subst ha hb
  rw [sEq_eq, ByteArray.toList_eq, ByteArray.toList_eq]

/-! ### addresses -/
theorem run_sameAddr_apart {P : Program} {a b : Addr} {ca cb : Array Value} {ta tb : TypeId} {l m : Nat} (hne : a.block ≠ b.block) (ha : w.heap[a.block]? = some (.cells ca ta (l, l))) (hb : w.heap[b.block]? = some (.cells cb tb (m, m))) :
    (sameAddr a b).run P w = .ok false w := by
  have h1 : ∀ o : Nat, (decide (l ≤ o) && decide (o < l)) = false := fun o => by rw [Bool.and_eq_false_iff]; simp only [decide_eq_false_iff_not]; omega
  have h2 : ∀ o : Nat, (decide (m ≤ o) && decide (o < m)) = false := fun o => by rw [Bool.and_eq_false_iff]; simp only [decide_eq_false_iff_not]; omega
  simp [sameAddr, hne, World.frozen?, ha, hb, noView, viewAt, World.shape?, mayBeOne, stringish, h1, h2]

theorem cleanK_spec {Φ : OR → Prop} (hf : ∀ n, Φ (.fail n)) {b : Nat} {k : OR} (hk : ∀ fz e r, hget E H b = .cells fz e r → isU8 E.P e = false → Φ k) : Φ (cleanK E H b k) := by
  unfold cleanK
  refine onCells_spec (hf _) fun f e r hg => ?_
  split
  · exact hf _
  · rename_i h; exact hk f e r hg h

theorem eqPtr_spec (hH : Hs E c H w) {Φ : OR → Prop} (hf : ∀ n, Φ (.fail n)) {x y : AV} {a b : Value} (hx : V c x a) (hy : V c y b) {sz : Nat} {k : Bool → OR} {d : Nat} {t e : TypeId} {i : TypeInfo}
    (ht : E.P.underlying t = some (.pointer e)) (hi : E.P.info? e = some i) (hsz : sz = i.size) (hk : ∀ r, (Op.equalIn (d + 1) t a b).run E.P w = .ok r w → Φ (k r)) : Φ (eqPtr E H x y sz k) := by
  unfold eqPtr
  split
  · cases hx; cases hy
    exact hk _ (by simp [Op.equalIn, run_underlying ht])
  · cases hx; obtain ⟨B, o, -, e⟩ := hy; cases e
    exact hk _ (by simp [Op.equalIn, run_underlying ht])
  · cases hy; obtain ⟨B, o, -, e⟩ := hx; cases e
    exact hk _ (by simp [Op.equalIn, run_underlying ht])
  · rename_i p o q o'
    obtain ⟨B, k1, hr1, e1⟩ := hx
    obtain ⟨B', k2, hr2, e2⟩ := hy
    cases e1; cases e2
    split
    · exact hf _
    · rename_i hz
      have hz' : i.size ≠ 0 := by rw [← hsz]; exact Nat.ne_of_beq_eq_false hz
      split
      · rename_i hb
        have hb' : p = q := by simpa using hb
        subst hb'
        rw [hr1] at hr2; cases hr2
        refine hk _ ?_
        simp only [Op.equalIn, Sem.run_bind, run_underlying ht, Result.andThen_ok, run_sizeOf' hi]
        rw [if_pos (by simpa using hz')]
        simp only [sameAddr, beq_self_eq_true, if_true, Sem.run_pure]
        congr 1
        show _ = Nat.beq o o'
        rw [Bool.eq_iff_iff]
        simp
      · rename_i hb
        have hb' : p ≠ q := Nat.ne_of_beq_eq_false hb
        refine cleanK_spec hf fun f1 t1 r1 hg1 hu1 => cleanK_spec hf fun f2 t2 r2 hg2 hu2 => ?_
        obtain ⟨l1, cs1, lo1, hi1, hB1, -, -, hu1', -⟩ := hH.cells hg1 hr1
        obtain ⟨l2, cs2, lo2, hi2, hB2, -, -, hu2', -⟩ := hH.cells hg2 hr2
        cases hu1' hu1; cases hu2' hu2
        refine hk _ ?_
        simp only [Op.equalIn, Sem.run_bind, run_underlying ht, Result.andThen_ok, run_sizeOf' hi]
        rw [if_pos (by simpa using hz')]
        refine run_sameAddr_apart (fun h => hb' ?_) hB1 hB2
        simp only at h
        subst h
        exact hH.inj p q B k1 k2 l1 l2 (by rw [hg1]; rfl) (by rw [hg2]; rfl) hr1 hr2
  · exact hf _

/-! ### structs -/
theorem eqFieldsK_spec {Φ : OR → Prop} (hf : ∀ n, Φ (.fail n)) {d : Nat} {again : TypeId → AV → AV → (Bool → OR) → OR}
    (ha : ∀ t x y a b k, V c x a → V c y b → (∀ r, (Op.equalIn d t a b).run E.P w = .ok r w → Φ (k r)) → Φ (again t x y k))
    {rx ry : AV} {xs ys : Array Value} (hx : S c rx xs.toList) (hx1 : ∀ y ∈ xs.toList, y.oneCell' = true) (hy : S c ry ys.toList) (hy1 : ∀ y ∈ ys.toList, y.oneCell' = true) :
    ∀ (fs : List Field) {k : Bool → OR}, (∀ r, (Op.eqFields d xs ys fs).run E.P w = .ok r w → Φ (k r)) → Φ (eqFieldsK E.P again rx ry fs k)
  | [], k, hk => hk true rfl
  | f :: fs, k, hk => by
    unfold eqFieldsK
    split
    · rename_i h
      have h' : ¬ (f.name ≠ "_") := by simpa using h
      exact eqFieldsK_spec hf ha hx hx1 hy hy1 fs fun r hr => hk r (by rw [Op.eqFields, if_neg h']; exact hr)
    · rename_i h
      have h' : f.name ≠ "_" := by simpa using h
      refine partK_spec (c := c) hf hx hx1 fun a u hu hau => partK_spec (c := c) hf hy hy1 fun b v hv hbv => ha _ _ _ _ _ _ hau hbv fun r hr => ?_
      have key : ∀ q, (if (!r) = true then (pure false : Sem Bool) else Op.eqFields d xs ys fs).run E.P w = .ok q w → Φ (k q) := fun q hq => hk q (by
        rw [Op.eqFields, if_pos h']
        simp only [Sem.run_bind, run_part_of hu, run_part_of hv, Result.andThen_ok, hr]
        exact hq)
      cases r
      · exact key false rfl
      · exact eqFieldsK_spec hf ha hx hx1 hy hy1 fs fun q hq => key q hq

theorem eqItemsK_spec {Φ : OR → Prop} (hf : ∀ n, Φ (.fail n)) {d : Nat} {again : TypeId → AV → AV → (Bool → OR) → OR}
    (ha : ∀ t x y a b k, V c x a → V c y b → (∀ r, (Op.equalIn d t a b).run E.P w = .ok r w → Φ (k r)) → Φ (again t x y k))
    {rx ry : AV} {xs ys : Array Value} (hx : S c rx xs.toList) (hx1 : ∀ y ∈ xs.toList, y.oneCell' = true) (hy : S c ry ys.toList) (hy1 : ∀ y ∈ ys.toList, y.oneCell' = true) {e sz : Nat} :
    ∀ (m i : Nat) {k : Bool → OR}, (∀ r, (Op.eqItems d e sz xs ys (List.range' i m)).run E.P w = .ok r w → Φ (k r)) → Φ (eqItemsK E.P again e sz rx ry m i k)
  | 0, i, k, hk => hk true rfl
  | m + 1, i, k, hk => by
    unfold eqItemsK
    refine partK_spec (c := c) hf hx hx1 fun a u hu hau => partK_spec (c := c) hf hy hy1 fun b v hv hbv => ha _ _ _ _ _ _ hau hbv fun r hr => ?_
    have key : ∀ q, (if (!r) = true then (pure false : Sem Bool) else Op.eqItems d e sz xs ys (List.range' (i + 1) m)).run E.P w = .ok q w → Φ (k q) := fun q hq => hk q (by
      rw [List.range'_succ, Op.eqItems]
      have hu' : partV (tyK E.P e) xs.toList (i * sz) = some u := hu
      have hv' : partV (tyK E.P e) ys.toList (i * sz) = some v := hv
      simp only [Sem.run_bind, run_part_of hu', run_part_of hv', Result.andThen_ok, hr]
      cases r <;> exact hq)
    cases r
    · exact key false rfl
    · exact eqItemsK_spec hf ha hx hx1 hy hy1 m (i + 1) fun q hq => key q hq

/-! ### equality -/
theorem fieldsOf_eq {P : Program} {t : TypeId} {fs : Array Field} (h : P.underlying t = some (.struct fs)) : P.fieldsOf t = fs := by simp [Program.fieldsOf, h]

theorem eqK_spec (hH : Hs E c H w) {Φ : OR → Prop} (hf : ∀ n, Φ (.fail n)) : ∀ (n d : Nat), n ≤ d → ∀ (t : TypeId) (x y : AV) (a b : Value) (k : Bool → OR), V c x a → V c y b →
    (∀ r, (Op.equalIn d t a b).run E.P w = .ok r w → Φ (k r)) → Φ (eqK E H n t x y k)
  | 0, _, _, _, _, _, _, _, _, _, _, _ => hf _
  | n + 1, d + 1, hd, t, x, y, a, b, k, hx, hy, hk => by
    have ih := eqK_spec hH hf n d (by omega)
    unfold eqK
    cases ht : eqT E.P t <;> simp only
    all_goals unfold eqT at ht
    case bool =>
      split at ht <;> try (first | (cases ht; done) | (split at ht <;> cases ht; done))
      rename_i hu
      split
      · cases hx; cases hy
        exact hk _ (by simp [Op.equalIn, run_underlying hu])
      · exact hf _
    case int =>
      split at ht <;> try (first | (cases ht; done) | (split at ht <;> cases ht; done))
      rename_i q hu
      split
      · rename_i j p i q
        cases hx; cases hy
        split
        · rename_i h
          cases kEq_spec h
          rw [eqI_eq]
          exact hk _ (by simp [Op.equalIn, run_underlying hu])
        · exact hf _
      · exact hf _
    case str =>
      split at ht <;> try (first | (cases ht; done) | (split at ht <;> cases ht; done))
      rename_i hu
      split
      · obtain ⟨s, e, hs⟩ := hx; cases e
        obtain ⟨s', e, hs'⟩ := hy; cases e
        rw [sEq_bytes hs hs']
        exact hk _ (run_equalIn_string w d t _ _ hu)
      · exact hf _
    case ptr sz =>
      split at ht <;> try (first | (cases ht; done) | (split at ht <;> first | (cases ht; done) | skip))
      all_goals try (cases ht; done)
      rename_i e hu _ i hi
      cases ht
      exact eqPtr_spec hH hf hx hy hu hi rfl hk
    case slice =>
      split at ht <;> try (first | (cases ht; done) | (split at ht <;> cases ht; done))
      rename_i e hu
      split
      · cases hx; cases hy; exact hk _ (by simp [Op.equalIn, run_underlying hu])
      · cases hx; obtain ⟨_, _, _, _, _, e, _⟩ := hy; cases e; exact hk _ (by simp [Op.equalIn, run_underlying hu])
      · cases hy; obtain ⟨_, _, _, _, _, e, _⟩ := hx; cases e; exact hk _ (by simp [Op.equalIn, run_underlying hu])
      · exact hf _
    case map =>
      split at ht <;> try (first | (cases ht; done) | (split at ht <;> cases ht; done))
      rename_i e e' hu
      split
      · cases hx; cases hy; exact hk _ (by simp [Op.equalIn, run_underlying hu])
      · cases hx; obtain ⟨_, _, e⟩ := hy; cases e; exact hk _ (by simp [Op.equalIn, run_underlying hu])
      · cases hy; obtain ⟨_, _, e⟩ := hx; cases e; exact hk _ (by simp [Op.equalIn, run_underlying hu])
      · exact hf _
    case func =>
      split at ht <;> try (first | (cases ht; done) | (split at ht <;> cases ht; done))
      rename_i e e' e'' hu
      split
      · cases hx; cases hy; exact hk _ (by simp [Op.equalIn, run_underlying hu])
      · cases hx; obtain ⟨_, _, e, _⟩ := hy; cases e; exact hk _ (by simp [Op.equalIn, run_underlying hu])
      · cases hy; obtain ⟨_, _, e, _⟩ := hx; cases e; exact hk _ (by simp [Op.equalIn, run_underlying hu])
      · cases hx; obtain ⟨_, _, e⟩ := hy; cases e; exact hk _ (by simp [Op.equalIn, run_underlying hu])
      · cases hy; obtain ⟨_, _, e⟩ := hx; cases e; exact hk _ (by simp [Op.equalIn, run_underlying hu])
      · exact hf _
    case iface =>
      split at ht <;> try (first | (cases ht; done) | (split at ht <;> cases ht; done))
      rename_i e hu
      split
      · cases hx; obtain ⟨_, e, _⟩ := hy; cases e; exact hk _ (by simp [Op.equalIn, run_underlying hu])
      · cases hy; obtain ⟨_, e, _⟩ := hx; cases e; exact hk _ (by simp [Op.equalIn, run_underlying hu])
      · cases hx; cases hy; exact hk _ (by simp [Op.equalIn, run_underlying hu])
      · obtain ⟨p, e, hp⟩ := hx; cases e
        obtain ⟨q, e, hq⟩ := hy; cases e
        split
        · rename_i h
          have := Nat.ne_of_beq_eq_false h
          exact hk _ (by simp [Op.equalIn, run_underlying hu, this])
        · rename_i h
          have := Nat.eq_of_beq_eq_true h
          subst this
          split
          · rename_i i hi
            split
            · rename_i hc
              exact ih _ _ _ _ _ _ hp hq fun r hr => hk r (by simp [Op.equalIn, run_underlying hu, typeInfo, hi, hc, hr])
            · exact hf _
          · exact hf _
      · exact hf _
    case strct fs =>
      split at ht <;> try (first | (cases ht; done) | (split at ht <;> first | (cases ht; done) | skip))
      all_goals try (cases ht; done)
      rename_i fs' hu _ hst
      cases ht
      split
      · obtain ⟨xs, e, hx, hx1⟩ := hx; cases e
        obtain ⟨ys, e, hy, hy1⟩ := hy; cases e
        refine eqFieldsK_spec hf ih hx hx1 hy hy1 _ fun r hr => hk r ?_
        rw [run_equalIn_struct w d t xs ys (by rw [fieldsOf_eq hu]; exact hu) hst, fieldsOf_eq hu]
        exact hr
      · exact hf _
    case arr e m sz =>
      split at ht <;> try (first | (cases ht; done) | (split at ht <;> first | (cases ht; done) | skip))
      all_goals try (cases ht; done)
      rename_i hu _ i hi
      cases ht
      split
      · obtain ⟨xs, e, hx, hx1⟩ := hx; cases e
        obtain ⟨ys, e, hy, hy1⟩ := hy; cases e
        refine eqItemsK_spec hf ih hx hx1 hy hy1 _ _ fun r hr => hk r ?_
        rw [run_equalIn_array w d xs ys hu hi, List.range_eq_range']
        exact hr
      · exact hf _
    case other => exact hf _

/-! ### the guard -/
def rawV : AV → Bool
  | .bad => true
  | .sym _ => true
  | .rnil => true
  | .cat _ _ _ _ => true
  | _ => false
def niliV : AV → Bool | .nili => true | _ => false
def aggV : AV → Bool | .agg _ => true | _ => false
theorem not_nili {x : AV} {a : Value} (hx : V c x a) (hr : rawV x = false) (hn : niliV x = false) : a ≠ .nilIface := by
  rintro rfl
  cases x <;> simp only [V, S] at hx <;> first
    | (simp [rawV] at hr; done)
    | (simp [niliV] at hn; done)
    | (cases hx; done)
    | (simp at hx; done)
    | (obtain ⟨_, e, _⟩ := hx; cases e; done)
    | (obtain ⟨_, _, e⟩ := hx; cases e; done)
    | (obtain ⟨_, _, _, e⟩ := hx; cases e; done)
    | (obtain ⟨_, _, e, _⟩ := hx; cases e; done)
    | (obtain ⟨_, _, _, _, _, e, _⟩ := hx; cases e; done)
theorem not_agg {x : AV} {a : Value} (hx : V c x a) (hr : rawV x = false) (hn : aggV x = false) : ∀ cs, a ≠ .agg cs := by
  rintro cs rfl
  cases x <;> simp only [V, S] at hx <;> first
    | (simp [rawV] at hr; done)
    | (simp [aggV] at hn; done)
    | (cases hx; done)
    | (simp at hx; done)
    | (obtain ⟨_, e, _⟩ := hx; cases e; done)
    | (obtain ⟨_, _, e⟩ := hx; cases e; done)
    | (obtain ⟨_, _, _, e⟩ := hx; cases e; done)
    | (obtain ⟨_, _, e, _⟩ := hx; cases e; done)
    | (obtain ⟨_, _, _, _, _, e, _⟩ := hx; cases e; done)
theorem eqGuard_plain {P : Program} (op : BinOp) (t : TypeId) (ox oy : Operand) {a b : Value} (h1 : a ≠ .nilIface ∨ b ≠ .nilIface) (h2 : (∀ cs, a ≠ .agg cs) ∨ (∀ cs, b ≠ .agg cs)) :
    (eqGuard op t ox oy a b).run P w = .ok () w := by
  unfold eqGuard
  split <;> simp only [Bool.not_true, Bool.not_false, Bool.false_eq_true, if_false, if_true] <;> first
    | (split
       · exfalso; rcases h1 with h | h <;> exact h rfl
       · rename_i xs ys; exfalso; rcases h2 with h | h <;> exact h _ rfl
       · exact Sem.run_pure ..)
    | exact Sem.run_pure ..
theorem eqGuard_nili {P : Program} (op : BinOp) (t : TypeId) {ox oy : Operand} (h : (isCst ox || isCst oy) = true) : (eqGuard op t ox oy .nilIface .nilIface).run P w = .ok () w := by
  cases ox <;> cases oy <;> cases op <;> first | (simp [isCst] at h; done) | (simp [eqGuard])

theorem guardOK_spec {x y : AV} {a b : Value} (hx : V c x a) (hy : V c y b) {op : BinOp} {t : TypeId} {ox oy : Operand} (hg : guardOK E.P t (isCst ox || isCst oy) x y = true) :
    (eqGuard op t ox oy a b).run E.P w = .ok () w := by
  by_cases hn : niliV x = true ∧ niliV y = true
  · have e1 : x = .nili := by cases x <;> simp_all [niliV]
    have e2 : y = .nili := by cases y <;> simp_all [niliV]
    subst e1 e2
    cases hx; cases hy
    exact eqGuard_nili op t hg
  · by_cases ha : aggV x = true ∧ aggV y = true
    · cases x <;> first | (simp [aggV] at ha; done) | skip
      cases y <;> first | (simp [aggV] at ha; done) | skip
      obtain ⟨xs, e, -⟩ := hx; cases e
      obtain ⟨ys, e, -⟩ := hy; cases e
      exact run_eqGuard_agg w op t ox oy xs ys (by simpa [guardOK] using hg)
    · have rx : rawV x = false := by
        cases hr : rawV x with
        | false => rfl
        | true => cases x <;> first | (simp [rawV] at hr; done) | (cases y <;> simp [guardOK] at hg)
      have ry : rawV y = false := by
        cases hr : rawV y with
        | false => rfl
        | true => cases y <;> first | (simp [rawV] at hr; done) | (cases x <;> simp [guardOK] at hg)
      refine eqGuard_plain op t ox oy ?_ ?_
      · cases h : niliV x with
        | false => exact .inl (not_nili hx rx h)
        | true => exact .inr (not_nili hy ry (by cases h' : niliV y with | false => rfl | true => exact absurd ⟨h, h'⟩ hn))
      · cases h : aggV x with
        | false => exact .inl (not_agg hx rx h)
        | true => exact .inr (not_agg hy ry (by cases h' : aggV y with | false => rfl | true => exact absurd ⟨h, h'⟩ ha))

/-! ### binary operations -/
/-- with its guard -/
def bin2 (op : BinOp) (t : TypeId) (ox oy : Operand) (a b : Value) : Sem Value := do eqGuard op t ox oy a b; Go.binOp op t a b

def intV : Value → Bool | .int _ _ => true | _ => false
theorem run_bin2_int {P : Program} {op : BinOp} {t : TypeId} {ox oy : Operand} {a b : Value} (h : intV a = true ∨ intV b = true ∨ (∃ s, b = .string s)) : (bin2 op t ox oy a b).run P w = (Go.binOp op t a b).run P w := by
  have h1 : a ≠ .nilIface ∨ b ≠ .nilIface := by
    rcases h with h | h | ⟨s, h⟩
    · exact .inl fun e => by subst e; simp [intV] at h
    · exact .inr fun e => by subst e; simp [intV] at h
    · exact .inr fun e => by subst e; cases h
  have h2 : (∀ cs, a ≠ .agg cs) ∨ (∀ cs, b ≠ .agg cs) := by
    rcases h with h | h | ⟨s, h⟩
    · exact .inl fun cs e => by subst e; simp [intV] at h
    · exact .inr fun cs e => by subst e; simp [intV] at h
    · exact .inr fun cs e => by subst e; cases h
  simp only [bin2, Sem.run_bind, eqGuard_plain op t ox oy h1 h2, Result.andThen_ok]

theorem findFact_spec {Φ : OR → Prop} {tag x : Nat} {y : Int} {d : OR} {k : AV → OR} (hd : Φ d) : ∀ (l : List Fact), (∀ f ∈ l, f.tag = tag → f.x = x → f.y = y → Φ (k f.res)) → Φ (findFact tag x y l d k)
  | [], _ => hd
  | f :: l, h => by
    unfold findFact
    split
    · rename_i hb
      rw [Bool.and_eq_true, Bool.and_eq_true] at hb
      refine h f (by simp) (Nat.eq_of_beq_eq_true hb.1.1) (Nat.eq_of_beq_eq_true hb.1.2) ?_
      have key : ∀ a b : Int, findFact.eqIb a b = true → a = b := by
        intro a b h
        cases a <;> cases b <;> first
          | (simp [findFact.eqIb] at h; done)
          | (simp only [findFact.eqIb] at h; rw [Nat.eq_of_beq_eq_true h])
      exact key _ _ hb.2
    · exact findFact_spec hd l fun f hf => h f (by simp [hf])

/-- what is known of capacities may be told apart -/
theorem Hs.caps (hH : Hs E c H w) {l : List (Nat × Nat × Option Nat)} (h : ∀ j lo hi, capLook j l = some (lo, hi) → ∃ g, c.gam j = some g ∧ lo ≤ g ∧ ∀ h, hi = some h → g ≤ h) :
    Stp E c H w c { H with caps := l } w :=
  ⟨⟨hH.limD, hH.N, hH.sig, hH.next, hH.dom, hH.rlt, hH.blk, hH.inj, hH.base, h, hH.glt, hH.olt, hH.own⟩,
   ⟨.refl c, Nat.le_refl _, fun _ _ _ => rfl, fun _ _ h => h, rfl, rfl, rfl, Nat.le_refl _, Nat.le_refl _, fun _ _ => rfl, [], rfl, fun _ _ _ => rfl⟩⟩
theorem capLook_drop (j : Nat) : ∀ (l : List (Nat × Nat × Option Nat)) (i : Nat) (x), capLook i (capDrop j l) = some x → capLook i l = some x
  | [], i, x, h => h
  | y :: l, i, x, h => by
    unfold capDrop at h
    have ih := capLook_drop j l i x
    split at h
    · rename_i hb
      unfold capLook
      split
      · rename_i hb'
        exfalso
        have e1 := Nat.eq_of_beq_eq_true hb
        have e2 := Nat.eq_of_beq_eq_true hb'
        have : ∀ l, capLook j (capDrop j l) = none := by
          intro l
          induction l with
          | nil => rfl
          | cons z l ih =>
            unfold capDrop
            split
            · exact ih
            · rename_i hz; simp only [capLook, hz, ih]
        rw [← e2, e1, this] at h
        cases h
      · exact ih h
    · unfold capLook at h ⊢
      split
      · rename_i hb'; rw [hb'] at h; exact h
      · rename_i hb'; rw [hb'] at h; exact ih h
theorem Hs.capRefine (hH : Hs E c H w) {j lo g : Nat} {hi : Option Nat} (hg : c.gam j = some g) (hlo : lo ≤ g) (hhi : ∀ h, hi = some h → g ≤ h) :
    Stp E c H w c { H with caps := (j, lo, hi) :: capDrop j H.caps } w := by
  refine hH.caps fun i lo' hi' h => ?_
  unfold capLook at h
  split at h
  · rename_i hb
    have e := Nat.eq_of_beq_eq_true hb
    cases h
    exact ⟨g, by rw [← e]; exact hg, hlo, hhi⟩
  · exact hH.cap i lo' hi' (capLook_drop _ _ _ _ h)

theorem cmpCap_ok (hH : Hs E c H w) (op : BinOp) (t : TypeId) (n : Int) {j off g : Nat} (hg : c.gam j = some g) (ho : off ≤ g) :
    OKV E c H w (cmpCap op n H j off) ((Go.binOp op t (.int .i64 n) (.int .i64 ((g - off : Nat) : Int))).run E.P w) := by
  unfold cmpCap
  split
  · rename_i m lo hi hl
    obtain ⟨g', hg', hlo, hhi⟩ := hH.cap j lo hi hl
    rw [hg] at hg'; cases hg'
    have hrun : (Go.binOp .gtr t (.int .i64 (Int.ofNat m)) (.int .i64 ((g - off : Nat) : Int))).run E.P w = .ok (.bool (decide (g - off < m))) w := by
      rw [run_binII _ _ _ _ ⟨by simp, by simp⟩]
      simp only [Op.intCmp, Sem.run_pure, Int.ofNat_eq_natCast]
      congr 2
      rw [Bool.eq_iff_iff]
      simp only [decide_eq_true_eq]
      omega
    rw [hrun]
    split
    · rename_i h
      have h' : m + off ≤ lo := by simpa using h
      exact OKV.here hH (by rw [decide_eq_false (by omega)]) rfl
    · split
      · rename_i hmx
        split
        · rename_i h
          have h' : hmx < m + off := by simpa using h
          have := hhi _ rfl
          exact OKV.here hH (by rw [decide_eq_true (by omega)]) rfl
        · exact trivial
      · by_cases hc : g - off < m
        · refine ⟨_, List.mem_cons_self, .bool true, w, c, by rw [decide_eq_true hc], hH.capRefine hg hlo ?_, rfl⟩
          rintro h e; cases e
          show g ≤ m + off - 1
          omega
        · refine ⟨_, List.mem_cons_of_mem _ List.mem_cons_self, .bool false, w, c, by rw [decide_eq_false hc], hH.capRefine hg ?_ (fun h e => by cases e), rfl⟩
          show m + off ≤ g
          omega
  · exact trivial

def flatV : Value → Bool
  | .int _ _ => false
  | .float _ _ => false
  | .complex _ _ _ => false
  | .string _ => false
  | _ => true
theorem run_bin_eql {P : Program} {t : TypeId} {a b : Value} {r : Bool} (ha : flatV a = true) (h : (Op.equal t a b).run P w = .ok r w) : (Go.binOp .eql t a b).run P w = .ok (.bool r) w := by
  cases a <;> first | (simp [flatV] at ha; done) | (simp only [Go.binOp, Sem.run_bind, h, Result.andThen_ok, Sem.run_pure])
theorem run_bin_neq {P : Program} {t : TypeId} {a b : Value} {r : Bool} (ha : flatV a = true) (h : (Op.equal t a b).run P w = .ok r w) : (Go.binOp .neq t a b).run P w = .ok (.bool (!r)) w := by
  cases a <;> first | (simp [flatV] at ha; done) | (simp only [Go.binOp, Sem.run_bind, h, Result.andThen_ok, Sem.run_pure])
theorem flat_of {x y : AV} {cst : Bool} {t : TypeId} {a : Value} (hx : V c x a) (hg : guardOK E.P t cst x y = true) : flatV a = true := by
  cases x <;> simp only [V, S] at hx <;> first
    | (cases y <;> simp [guardOK] at hg; done)
    | (cases hx; rfl)
    | (obtain ⟨_, e, _⟩ := hx; cases e; rfl)
    | (obtain ⟨_, _, e⟩ := hx; cases e; rfl)
    | (obtain ⟨_, _, _, e⟩ := hx; cases e; rfl)
    | (obtain ⟨_, _, e, _⟩ := hx; cases e; rfl)
    | (obtain ⟨_, _, _, _, _, e, _⟩ := hx; cases e; rfl)

theorem eqTop_spec (hH : Hs E c H w) {Φ : OR → Prop} (hf : ∀ n, Φ (.fail n)) {op : BinOp} {t : TypeId} {ox oy : Operand} {x y : AV} {a b : Value} {k : Bool → OR} (hx : V c x a) (hy : V c y b)
    (hk : flatV a = true → ∀ r, (eqGuard op t ox oy a b).run E.P w = .ok () w → (Op.equal t a b).run E.P w = .ok r w → Φ (k r)) : Φ (eqTop E t (isCst ox || isCst oy) x y H k) := by
  unfold eqTop
  split
  · rename_i hg
    exact eqK_spec hH hf 30 Op.maxDepth (by decide) t x y a b k hx hy fun r hr => hk (flat_of hx hg) r (guardOK_spec hx hy hg) hr
  · exact hf _

theorem binSlow_ok (hE : FactsOK E c) (hH : Hs E c H w) (op : BinOp) (t : TypeId) (ox oy : Operand) {x y : AV} {a b : Value} (hx : V c x a) (hy : V c y b) :
    OKV E c H w (binSlow E op t (isCst ox || isCst oy) x y H) ((bin2 op t ox oy a b).run E.P w) := by
  unfold binSlow
  split
  · obtain ⟨s, e, hs⟩ := hx; cases e
    obtain ⟨s', e, hs'⟩ := hy; cases e
    rw [run_bin2_int (.inr (.inr ⟨_, rfl⟩))]
    exact strOp_ok hH op t hs hs'
  · cases hx; cases hy
    rw [run_bin2_int (.inr (.inl rfl))]
    split
    · rename_i h
      cases kEq_spec h
      refine findFact_spec (Φ := fun o => OKV E c H w o _) (OKV.fail _ _) _ fun f hm h1 h2 h3 => ?_
      obtain ⟨x, hx, hv⟩ := (hE f hm).2 op t w h1
      rw [h2, h3] at hx
      exact OKV.here hH hx (hv c rfl)
    · exact trivial
  · obtain ⟨g, hg, ho, e⟩ := hy; cases e
    cases hx
    rw [run_bin2_int (.inr (.inl rfl))]
    split
    · rename_i h
      cases kEq_spec h
      exact cmpCap_ok hH op t _ hg ho
    · exact trivial
  · split
    · refine eqTop_spec (op := .eql) hH (Φ := fun o => OKV E c H w o _) (fun _ => trivial) hx hy fun hfl r h1 h2 => OKV.bool hH ?_
      simp only [bin2, Sem.run_bind, h1, Result.andThen_ok, run_bin_eql hfl h2]
    · refine eqTop_spec (op := .neq) hH (Φ := fun o => OKV E c H w o _) (fun _ => trivial) hx hy fun hfl r h1 h2 => OKV.bool hH ?_
      simp only [bin2, Sem.run_bind, h1, Result.andThen_ok, run_bin_neq hfl h2]
    · exact trivial

theorem hBin_ok (hE : FactsOK E c) (hH : Hs E c H w) (op : BinOp) (t : TypeId) (ox oy : Operand) {x y : AV} {a b : Value} (hx : V c x a) (hy : V c y b) :
    OKV E c H w (hBin E op t (isCst ox || isCst oy) x y H) ((bin2 op t ox oy a b).run E.P w) := by
  unfold hBin
  refine onInt_spec (Φ := fun o => OKV E c H w o _) (binSlow_ok hE hH op t ox oy hx hy) fun k n e => onInt_spec (Φ := fun o => OKV E c H w o _) (binSlow_ok hE hH op t ox oy hx hy) fun j m e' => ?_
  subst e e'
  cases hx.int_inv; cases hy.int_inv
  rw [run_bin2_int (.inl rfl)]
  exact binII_ok hH op t k n j m

end
end Go.Eng
/- The engine's operations are the model's: picks, tuples, interfaces, literals, new slices. -/
namespace Go.Eng

section
variable {E : Env} {c : Cx} {H : Heap} {w : World}

theorem V.bool_inv {b : Bool} {x : Value} (h : V c (.bool b) x) : x = .bool b := by simpa [S] using h

/-- pick -/
theorem hPick_ok (hH : Hs E c H w) {p a b : AV} {x y z : Value} (hp : V c p x) (ha : V c a y) (hb : V c b z) :
    OKV E c H w (onBool p (fun q => Bool.rec (motive := fun _ => OR) (.val b H) (.val a H) q) (.fail 150)) (Sem.run E.P (do pure (if ← asBool x then y else z)) w) := by
  refine onBool_spec (Φ := fun o => OKV E c H w o _) (OKV.fail _ _) fun q e => ?_
  subst e
  cases hp.bool_inv
  cases q
  · exact OKV.here hH rfl hb
  · exact OKV.here hH rfl ha

theorem hExtract_ok (hH : Hs E c H w) {v : AV} {x : Value} {i : Nat} (hv : V c v x) : OKV E c H w (hExtract v i H) ((Instr.extract x i).run E.P w) := by
  unfold hExtract
  refine onTup_spec (Φ := fun o => OKV E c H w o _) (OKV.fail _ _) fun r e => ?_
  subst e
  obtain ⟨cs, e, hs⟩ := hv
  cases e
  refine rget_spec (c := c) (Φ := fun o => OKV E c H w o _) (OKV.fail _ _) hs fun a y hy ha => OKV.here hH ?_ ha
  simp only [Instr.extract]
  rw [Array.getElem?_toList] at hy
  rw [hy]; rfl

theorem concT_spec {P : Program} {t : TypeId} (h : concT P t = true) : ∃ d, P.underlying t = some d ∧ ∀ ms, d ≠ .interface ms := by
  unfold concT at h
  split at h
  · cases h
  · rename_i d hd hn; exact ⟨d, hn, fun ms e => hd ms e⟩
  · cases h

theorem hMakeIface_ok (hH : Hs E c H w) {v : AV} {x : Value} {t : TypeId} (hv : V c v x) :
    OKV E c H w (Bool.rec (motive := fun _ => OR) (.fail 149) (.val (.iface t v) H) (concT E.P t)) ((Instr.makeInterface t x).run E.P w) := by
  refine boolRec_spec (Φ := fun o => OKV E c H w o _) (fun _ => OKV.fail _ _) fun h => ?_
  obtain ⟨d, hd, hn⟩ := concT_spec h
  refine OKV.here hH (x := .iface t x) ?_ ⟨x, rfl, hv⟩
  simp only [Instr.makeInterface, Sem.run_bind, run_underlying hd, Result.andThen_ok]
  cases d <;> first | exact absurd rfl (hn _) | rfl

theorem okPair_spec {ok b : Bool} {v : AV} {x : Value} (hv : V c v x) : V c (okPair ok v b) (if ok then .tuple #[x, .bool b] else x) := by
  cases ok
  · exact hv
  · exact ⟨#[x, .bool b], rfl, [x], [.bool b], rfl, rfl, rfl, hv, rfl⟩

theorem hAssert_ok (hH : Hs E c H w) {v : AV} {x : Value} {xt a : TypeId} {ok : Bool} (hv : V c v x) : OKV E c H w (hAssert E v a ok H) ((Instr.typeAssert x xt a ok).run E.P w) := by
  unfold hAssert
  split
  · exact OKV.fail _ _
  · rename_i t u hc
    obtain ⟨d, hd, hn⟩ := concT_spec hc
    obtain ⟨y, e, hy⟩ := hv; cases e
    split
    · rename_i hb
      cases Nat.eq_of_beq_eq_true hb
      refine OKV.here hH ?_ (okPair_spec (b := true) hy)
      simp only [Instr.typeAssert, Sem.run_bind, run_underlying hd, Result.andThen_ok]
      cases d <;> first | exact absurd rfl (hn _) | (rw [if_pos trivial]; rfl)
    · rename_i hb hz
      have hne := Nat.ne_of_beq_eq_false hb
      obtain ⟨i, z, hi, hz, hzv, -⟩ := zOK_spec hH hz
      refine OKV.here hH ?_ (okPair_spec (ok := true) (b := false) hzv)
      simp only [Instr.typeAssert, Sem.run_bind, run_underlying hd, Result.andThen_ok]
      cases d <;> first | exact absurd rfl (hn _) | simp [hne, run_zeroValue' hi hz]
    · exact OKV.fail _ _
  · rename_i hc
    obtain ⟨d, hd, hn⟩ := concT_spec hc
    cases hv
    split
    · rename_i hz
      obtain ⟨i, z, hi, hz, hzv, -⟩ := zOK_spec hH hz
      refine OKV.here hH ?_ (okPair_spec (ok := true) (b := false) hzv)
      simp only [Instr.typeAssert, Sem.run_bind, run_underlying hd, Result.andThen_ok]
      cases d <;> first | exact absurd rfl (hn _) | simp [run_zeroValue' hi hz]
    · exact OKV.fail _ _
  · exact OKV.fail _ _

theorem hUn_ok (hH : Hs E c H w) {op : UnOp} {v : AV} {x : Value} (hv : V c v x) : OKV E c H w (hUn op v H) ((Op.unary op x).run E.P w) := by
  unfold hUn
  split
  · cases hv.bool_inv; exact OKV.bool hH rfl
  · cases hv.int_inv; exact orOf_ok hH _
  · exact OKV.fail _ _

theorem hS2ap_ok (hH : Hs E c H w) {a : TypeId} {v : AV} {x : Value} (hv : V c v x) : OKV E c H w (hS2ap E a v H) ((Instr.arrayAt a x).run E.P w) := by
  unfold hS2ap
  have hs := idxK_spec E.P a
  split
  · rename_i n sz b o len cap hk
    rw [hk] at hs
    cases hs with
    | arr _ e i hu hi he =>
    split
    · rename_i hb
      rw [Bool.and_eq_true] at hb
      have h1 : n ≤ len := by simpa using hb.1
      have h2 : 0 < n := by simpa using hb.2
      obtain ⟨B, k, o', cp, hr, e, hc, hle, ho⟩ := hv
      cases e
      have ho' : o' = k + o := by rcases ho with h | h <;> omega
      subst ho'
      refine OKV.here hH (x := .pointer (some ⟨B, k + o, none⟩)) ?_ ⟨B, k, hr, rfl⟩
      simp only [Instr.arrayAt, Sem.run_bind, run_underlying hu, Result.andThen_ok]
      rw [if_neg (by omega)]
      rfl
    · exact OKV.fail _ _
  · exact OKV.fail _ _

/-! ### functions -/
theorem SL.take (n : Nat) : ∀ {l : List AV} {ys : List Value}, SL c l ys → SL c (l.take n) (ys.take n) := by
  induction n with
  | zero => intro l ys _; rfl
  | succ n ih =>
    intro l ys h
    cases l with
    | nil => cases h; rfl
    | cons v l => obtain ⟨y, zs, e, hv, hs⟩ := h; subst e; exact ⟨y, _, rfl, hv, ih hs⟩
theorem SL.drop (n : Nat) : ∀ {l : List AV} {ys : List Value}, SL c l ys → SL c (l.drop n) (ys.drop n) := by
  induction n with
  | zero => intro l ys h; exact h
  | succ n ih =>
    intro l ys h
    cases l with
    | nil => cases h; rfl
    | cons v l => obtain ⟨y, zs, e, hv, hs⟩ := h; subst e; exact ih hs

theorem hMakeFunc_ok (hH : Hs E c H w) {fn : Fn} {l : List AV} {first cap : Array Value} (hl : SL c l (first.toList ++ cap.toList)) :
    OKV E c H w (hMakeFunc fn first.size l H) ((Instr.makeFunc fn first cap).run E.P w) := by
  unfold hMakeFunc
  split
  · refine OKV.here hH (x := .func (.func _) first cap) rfl ⟨first, cap, rfl, rofList_spec ?_, rofList_spec ?_⟩
    · have := SL.take first.size hl
      rwa [List.take_left' (by simp)] at this
    · have := SL.drop first.size hl
      rwa [List.drop_left' (by simp)] at this
  · exact OKV.fail _ _

/-! ### zero cells, again and again -/
def repV (z : List Value) : Nat → List Value
  | 0 => []
  | n + 1 => z ++ repV z n
theorem repV_length (z : List Value) : ∀ n, (repV z n).length = n * z.length
  | 0 => by simp [repV]
  | n + 1 => by simp only [repV, List.length_append, repV_length z n, Nat.succ_mul]; omega
theorem repV_one (z : List Value) (h : ∀ y ∈ z, y.oneCell' = true) : ∀ n, ∀ y ∈ repV z n, y.oneCell' = true
  | 0, y, hy => by simp [repV] at hy
  | n + 1, y, hy => by
    simp only [repV, List.mem_append] at hy
    rcases hy with h' | h'
    · exact h y h'
    · exact repV_one z h n y h'
theorem repV_get (z : List Value) : ∀ n i, i < n * z.length → (repV z n)[i]? = z[i % z.length]?
  | 0, i, h => by simp at h
  | n + 1, i, h => by
    simp only [repV]
    by_cases hi : i < z.length
    · rw [List.getElem?_append_left hi, Nat.mod_eq_of_lt hi]
    · have hi' : z.length ≤ i := by omega
      rw [Nat.succ_mul] at h
      rw [List.getElem?_append_right hi', repV_get z n (i - z.length) (by omega), Nat.mod_eq_sub_mod hi']
theorem range_cells (z : Array Value) (n : Nat) : ((Array.range (n * z.size)).map (fun i => z[i % z.size]!)).toList = repV z.toList n := by
  apply List.ext_getElem?
  intro i
  by_cases hi : i < n * z.size
  · have hz : 0 < z.size := by
      rcases Nat.eq_zero_or_pos z.size with h | h
      · rw [h] at hi; simp at hi
      · exact h
    have hm := Nat.mod_lt i hz
    rw [repV_get _ _ _ (by simpa using hi)]
    simp [hi, hm]
  · rw [List.getElem?_eq_none (by simp; omega), List.getElem?_eq_none (by rw [repV_length]; simp; omega)]
theorem SR.rep {z : AV} {zs : List Value} (h : S c z zs) : ∀ n, SR c (repL z n) (repV zs n)
  | 0 => rfl
  | n + 1 => ⟨zs, _, rfl, h, SR.rep h n⟩
theorem rofList_SR {l : List AV} {ys : List Value} (h : SR c l ys) : S c (rofList l) ys := by
  refine ofRs_spec _ h ?_ (by omega)
  rw [Nat.add_sub_cancel]
  exact Nat.le_of_lt Nat.lt_two_pow_self
theorem zerosT_spec {P : Program} {e : TypeId} {zs : List Value} (h : S c (zeroC P e) zs) (n : Nat) : S c (zerosT P e n) (repV zs n) := rofList_SR (SR.rep h n)

/-! ### parts laid over cells -/
theorem foldl_set (off : Nat) : ∀ (vs : List Value) (j : Nat) (cs : Array Value), off + j + vs.length ≤ cs.size →
    (vs.zipIdx j).foldl (fun cs (p : Value × Nat) => cs.setIfInBounds (off + p.2) p.1) cs = (overL cs.toList (off + j) vs).toArray
  | [], j, cs, _ => by simp [overL]
  | v :: vs, j, cs, h => by
    simp only [List.length_cons] at h
    simp only [List.zipIdx_cons, List.foldl_cons]
    rw [foldl_set off vs (j + 1) _ (by simp; omega)]
    congr 1
    simp only [overL, Array.toList_setIfInBounds, List.length_cons]
    have hlt : off + j < cs.toList.length := by simp; omega
    rw [List.drop_set_of_lt (by omega)]
    have e1 : off + (j + 1) = off + j + 1 := by omega
    rw [e1, List.take_succ_eq_append_getElem (by simpa using hlt), List.take_set_of_le (by omega)]
    simp only [List.getElem_set_self, List.append_assoc, List.cons_append, List.nil_append]
    congr 4
    omega
theorem foldl_set' (off : Nat) (vs cs : Array Value) (h : off + vs.size ≤ cs.size) :
    vs.zipIdx.foldl (fun cs (p : Value × Nat) => cs.setIfInBounds (off + p.2) p.1) cs = (overL cs.toList off vs.toList).toArray := by
  have := foldl_set off vs.toList 0 cs (by simpa using h)
  rw [← Array.foldl_toList]
  simpa using this
end
end Go.Eng
/- The engine's operations are the model's: literals, new slices, new maps. -/
namespace Go.Eng

section
variable {E : Env} {c : Cx} {H : Heap} {w : World}

theorem overL_length (cs : List Value) (o : Nat) (vs : List Value) (h : o + vs.length ≤ cs.length) : (overL cs o vs).length = cs.length := by
  simp only [overL, List.length_append, List.length_take, List.length_drop]; omega
theorem overL_one (cs : List Value) (o : Nat) (vs : List Value) (h : ∀ y ∈ cs, y.oneCell' = true) (h' : ∀ y ∈ vs, y.oneCell' = true) : ∀ y ∈ overL cs o vs, y.oneCell' = true := by
  intro y hy
  simp only [overL, List.mem_append] at hy
  rcases hy with h1 | h1 | h1
  · exact h y (List.mem_of_mem_take h1)
  · exact h' y h1
  · exact h y (List.mem_of_mem_drop h1)

theorem fillK_spec (hH : Hs E c H w) {Φ : OR → Prop} (hf : ∀ n, Φ (.fail n)) {place : Nat → Option (Nat × Nat)} {k : AV → OR} :
    ∀ (pl : List (Nat × Nat)) (xs : List AV) (parts : List (Nat × Value)) (r : AV) (cells : Array Value), pl.map some = parts.map (fun p => place p.1) → SL c xs (parts.map (·.2)) →
    S c r cells.toList → (∀ y ∈ cells.toList, y.oneCell' = true) →
    (∀ r' cells', Instr.fill place cells parts = some cells' → S c r' cells'.toList → (∀ y ∈ cells'.toList, y.oneCell' = true) → Φ (k r')) → Φ (fillK (zip3 pl xs) r k)
  | [], [], [], r, cells, _, _, hr, h1, hk => hk r cells rfl hr h1
  | [], _, _ :: _, _, _, h, _, _, _, _ => by simp at h
  | _ :: _, _, [], _, _, h, _, _, _, _ => by simp at h
  | [], _ :: _, [], _, _, _, h, _, _, _ => by simp [SL] at h
  | (o, n) :: pl, [], (i, v) :: parts, _, _, _, h, _, _, _ => by simp [SL] at h
  | (o, n) :: pl, x :: xs, (i, v) :: parts, r, cells, hp, hx, hr, h1, hk => by
    simp only [List.map_cons, List.cons.injEq] at hp
    obtain ⟨y, zs, e, hv, hs⟩ := hx
    simp only [List.map_cons, List.cons.injEq] at e
    obtain ⟨e1, e2⟩ := e
    subst e1 e2
    unfold zip3 fillK
    refine cellsK_spec hH hf hv fun q hq hq1 => ?_
    split
    · rename_i hb
      have hb' : v.cells.size = n := by
        have := Nat.eq_of_beq_eq_true hb
        rw [rsize_spec hq] at this; simpa using this
      refine rover_spec (hf _) hr hq fun r' hle hr' => ?_
      have hle' : o + v.cells.size ≤ cells.size := by simpa using hle
      refine fillK_spec hH hf pl xs parts r' (overL cells.toList o v.cells.toList).toArray hp.2 hs (by simpa [overL] using hr') (by simpa using overL_one _ _ _ h1 hq1) fun r'' cells' hfl hs' h1' => hk r'' cells' ?_ hs' h1'
      simp only [Instr.fill, ← hp.1]
      rw [if_neg (by simp; omega)]
      have := foldl_set' o v.cells cells hle'
      rw [this]
      exact hfl
    · exact hf _

theorem placesS_map : ∀ (pl : List (Nat × Nat)) (is : List Nat) (q : List (Nat × Nat)), placesS pl is = some q → q.map some = is.map (fun i => pl[i]?)
  | pl, [], q, h => by simp [placesS] at h; subst h; rfl
  | pl, i :: is, q, h => by
    unfold placesS at h
    split at h
    · rename_i p r hp hr
      cases h
      simp [hp, placesS_map pl is r hr]
    · cases h
theorem placesA_map (sz : Nat) : ∀ is : List Nat, (placesA sz is).map some = is.map (fun i => some (i * sz, sz))
  | [] => rfl
  | i :: is => by simp [placesA, placesA_map sz is]
theorem fldSizes_eq (P : Program) : ∀ (fs : List Field) (q : List (Nat × Nat)), fldSizes P fs = some q → fs.mapM (fun f => (P.info? f.type).map fun i => (f.offset, i.size)) = some q
  | [], q, h => by simp [fldSizes] at h; subst h; rfl
  | f :: fs, q, h => by
    unfold fldSizes at h
    split at h
    · rename_i i r hi hr
      cases h
      simp [List.mapM_cons, hi, fldSizes_eq P fs r hr]
    · cases h

theorem hBuild_ok (hH : Hs E c H w) {t : TypeId} {ps : Array (Nat × Operand)} {ρ : Operand → Value} {xs : List AV} (hx : SL c xs (ps.toList.map fun p => ρ p.2)) :
    OKV E c H w (hBuild E t ps xs H) ((Instr.build t (ps.map fun (i, x) => (i, ρ x))).run E.P w) := by
  unfold hBuild
  split
  · rename_i pl hpl hz
    obtain ⟨i, z, hi, hz, -, hzs, hz1, hzsz, -⟩ := zOK_spec hH hz
    have hparts : (ps.map fun (i, x) => (i, ρ x)).toList = ps.toList.map fun p => (p.1, ρ p.2) := by simp
    have hx' : SL c xs ((ps.toList.map fun p => (p.1, ρ p.2)).map (·.2)) := by rw [List.map_map]; exact hx
    unfold places at hpl
    split at hpl
    · rename_i fs hu
      split at hpl
      · rename_i q hq
        have hm := placesS_map _ _ _ hpl
        refine fillK_spec hH (Φ := fun o => OKV E c H w o _) (fun _ => trivial) (place := fun x => q.toArray[x]?) pl xs (ps.toList.map fun p => (p.1, ρ p.2)) _ z.cells (by rw [hm]; simp [idxs, List.map_map, Function.comp_def]) hx' hzs hz1 fun r' cells' hfl hs' h1' => ?_
        refine OKV.here hH (x := .agg cells') (run_build w t _ _ ?_) ⟨cells', rfl, hs', h1'⟩
        simp only [Program.built, hi, hu, hz, fldSizes_eq _ _ _ hq, hparts]
        exact hfl
      · cases hpl
    · rename_i n e hu
      split at hpl
      · rename_i ie hie
        cases hpl
        have hm := placesA_map ie.size (idxs ps)
        refine fillK_spec hH (Φ := fun o => OKV E c H w o _) (fun _ => trivial) (place := fun i => some (i * ie.size, ie.size)) _ xs (ps.toList.map fun p => (p.1, ρ p.2)) _ z.cells (by rw [hm]; simp [idxs, List.map_map, Function.comp_def]) hx' hzs hz1 fun r' cells' hfl hs' h1' => ?_
        refine OKV.here hH (x := .agg cells') (run_build w t _ _ ?_) ⟨cells', rfl, hs', h1'⟩
        simp only [Program.built, hi, hu, hz, hie, hparts]
        exact hfl
      · cases hpl
    · cases hpl
  · exact OKV.fail _ _

theorem OKV.newSlice (hH : Hs E c H w) {e : TypeId} (hne : Nat.beq e E.tbl = false) (hlim : H.next < E.lim) {r : AV} {cells : Array Value} (hs : S c r cells.toList) (h1 : ∀ y ∈ cells.toList, y.oneCell' = true) {n m : Nat} (hnm : n ≤ m)
    {res : Result Value} (h : res = .ok (.slice (some ⟨w.heap.size, 0, none⟩) n m) (World.push w (.cells cells e))) :
    OKV E c H w (.val (.slice H.next 0 n (.known m)) (newH E H (.cells false e r))) res :=
  ⟨_, _, _, h, hH.newCells hlim (cs := cells) (lo := 0) (hi := 0) (push_size _ _) (fun B h => push_old _ _ h) (push_new _ _) rfl rfl rfl h1 (by omega) (fun _ => rfl) (fun h => absurd h (Nat.ne_of_beq_eq_false hne)) (ys := cells.toList) (post := []) (by simp) hs,
   w.heap.size, 0, 0, m, at_self _ _ _ _, rfl, rfl, hnm, .inl rfl⟩

theorem elemT_slice {P : Program} {t e : TypeId} (h : P.underlying t = some (.slice e)) : elemT P t = e := by simp [elemT, h]

theorem hBuildSlice_ok (hH : Hs E c H w) {t : TypeId} {n : Nat} {ps : Array (Nat × Operand)} {ρ : Operand → Value} {xs : List AV} (hx : SL c xs (ps.toList.map fun p => ρ p.2)) :
    OKV E c H w (hBuildSlice E t n ps xs H) ((Instr.buildSlice t n (ps.map fun (i, x) => (i, ρ x))).run E.P w) := by
  unfold hBuildSlice
  have hk := idxK_spec E.P t
  split
  · rename_i sz hi hz hle
    rw [hi] at hk
    cases hk with
    | sl e ie hu hie he =>
    rw [he] at hz hle ⊢
    obtain ⟨i, z, hi, hz, -, hzs, hz1, hzsz, -⟩ := zOK_spec hH hz
    rw [hie] at hi; cases hi
    have hx' : SL c xs ((ps.toList.map fun p => (p.1, ρ p.2)).map (·.2)) := by rw [List.map_map]; exact hx
    have hm := placesA_map ie.size (idxs ps)
    have hle' : n * ie.size ≤ 16777216 := by rw [cellsOf_eq hie] at hle; simpa using hle
    have hzn : ((Array.range (n * ie.size)).map (fun i => z.cells[i % z.cells.size]!)).toList = repV z.cells.toList n := by
      rw [← hzsz]; exact range_cells z.cells n
    refine fillK_spec hH (Φ := fun o => OKV E c H w o _) (fun _ => trivial) (place := fun i => some (i * ie.size, ie.size)) _ xs (ps.toList.map fun p => (p.1, ρ p.2)) _ ((Array.range (n * ie.size)).map (fun i => z.cells[i % z.cells.size]!))
      (by rw [hm]; simp [idxs, List.map_map, Function.comp_def]) hx' (by rw [hzn]; exact zerosT_spec hzs n) (by rw [hzn]; exact repV_one _ hz1 n) fun r' cells' hfl hs' h1' => ?_
    refine hnewR_spec (Φ := fun o => OKV E c H w o _) (fun _ => trivial) fun hne hlim => OKV.newSlice hH hne hlim hs' h1' (Nat.le_refl _) ?_
    have hparts : (ps.map fun (i, x) => (i, ρ x)).toList = ps.toList.map fun p => (p.1, ρ p.2) := by simp
    simp only [Instr.buildSlice, Sem.run_bind, run_underlying hu, Result.andThen_ok, run_sizeOf' hie]
    rw [if_neg (by omega)]
    by_cases h0 : n * ie.size = 0
    · have hc : ((Array.range (n * ie.size)).map (fun i => (#[] : Array Value)[i % (#[] : Array Value).size]!)) = ((Array.range (n * ie.size)).map (fun i => z.cells[i % z.cells.size]!)) := by simp [h0]
      simp only [if_pos h0, Sem.run_bind, Sem.run_pure, Result.andThen_ok]
      rw [hc, hparts, hfl]
      rfl
    · simp only [if_neg h0, Sem.run_bind, Sem.run_pure, run_zeroValue' hie hz, Result.andThen_ok]
      rw [hparts, hfl]
      rfl
  · exact OKV.fail _ _

theorem hMakeMap_ok (hH : Hs E c H w) {t : TypeId} : OKV E c H w (hnew E H (.map 0 []) fun r H' => .val (.mapv r) H') ((Instr.makeMap t none).run E.P w) := by
  refine hnew_spec (Φ := fun o => OKV E c H w o _) (fun _ => trivial) fun hlim => ?_
  refine ⟨.map (some w.heap.size), World.push w (.map #[] 0), _, rfl, hH.new hlim (push_size _ _) (fun B h => push_old _ _ h) rfl rfl rfl ⟨rfl, #[], push_new _ _, ⟨by simp, by simp, by simp, by simp⟩, rfl⟩, ?_⟩
  exact ⟨w.heap.size, at_self _ _ _ _, rfl⟩

theorem bytesOf_eq {P : Program} {t : TypeId} {i : TypeInfo} (h : P.info? t = some i) : P.bytesOf t = i.bytes := by simp [Program.bytesOf, h]

theorem hMakeSlice_ok (hH : Hs E c H w) {t : TypeId} {l m : AV} {x y : Value} (hl : V c l x) (hm : V c m y) : OKV E c H w (hMakeSlice E t l m H) ((Instr.makeSlice t x y).run E.P w) := by
  unfold hMakeSlice
  have hk := idxK_spec E.P t
  split
  · rename_i sz hi hz
    rw [hi] at hk
    cases hk with
    | sl e ie hu hie he =>
    rw [he] at hz ⊢
    rw [Bool.and_eq_true] at hz
    obtain ⟨i, z, hi, hz', -, hzs, hz1, hzsz, -⟩ := zOK_spec hH hz.1
    rw [hie] at hi; cases hi
    have hb : ie.bytes ≤ 1000000 := by
      have := hz.2; rw [bytesOf_eq hie] at this; simpa using this
    refine onNat_spec (Φ := fun o => OKV E c H w o _) (fun _ => trivial) fun j a e1 => onNat_spec (Φ := fun o => OKV E c H w o _) (fun _ => trivial) fun j' b e2 => ?_
    subst e1 e2
    cases hl.int_inv; cases hm.int_inv
    split
    · rename_i hab
      rw [Bool.and_eq_true] at hab
      have h1 : a ≤ b := by simpa using hab.1
      have h2 : b ≤ 1000000 := by simpa using hab.2
      have hzn : ((Array.range (b * ie.size)).map (fun i => z.cells[i % z.cells.size]!)).toList = repV z.cells.toList b := by
        rw [← hzsz]; exact range_cells z.cells b
      refine hnewR_spec (Φ := fun o => OKV E c H w o _) (fun _ => trivial) fun hne hlim => OKV.newSlice hH hne hlim (cells := ((Array.range (b * ie.size)).map (fun i => z.cells[i % z.cells.size]!)))
        (by rw [hzn]; exact zerosT_spec hzs b) (by rw [hzn]; exact repV_one _ hz1 b) h1 ?_
      have hbb : ie.bytes * b ≤ 1000000000000 := Nat.le_trans (Nat.mul_le_mul hb h2) (by decide)
      have wa : IntKind.i64.wrap (Int.ofNat a) = a := wrap_small (k := .i64) (show a ≤ 9223372036854775807 by omega)
      have wb : IntKind.i64.wrap (Int.ofNat b) = b := wrap_small (k := .i64) (show b ≤ 9223372036854775807 by omega)
      simp only [Instr.makeSlice, Sem.run_bind, run_underlying hu, Result.andThen_ok, asInt, asIntOf, Sem.run_pure, run_typeInfo' hie, wa, wb]
      have hbi : (ie.bytes : Int) * b ≤ 1000000000000 := by
        rw [← Int.natCast_mul]; exact Int.ofNat_le.2 hbb
      have hcond : ((decide ((b : Int) < 0) || decide ((ie.bytes : Int) * b > 2 ^ 48)) || decide ((a : Int) < 0) || decide ((a : Int) > b)) = false := by
        have e48 : (2 : Int) ^ 48 = 281474976710656 := by rfl
        rw [e48]
        simp only [Bool.or_eq_false_iff, decide_eq_false_iff_not]
        omega
      rw [hcond]
      simp only [Bool.false_eq_true, if_false, Sem.run_bind]
      have hroom : (askRoom ((b : Int).toNat * ie.bytes)).run E.P w = .ok () w := by
        unfold askRoom roomBytes
        rw [if_neg (by rw [Int.toNat_natCast, Nat.mul_comm]; have : (2 : Nat) ^ 47 = 140737488355328 := by decide
                       omega)]
        rfl
      rw [Int.toNat_natCast] at *
      by_cases h0 : b * ie.size = 0
      · have hc : ((Array.range (b * ie.size)).map (fun i => (#[] : Array Value)[i % (#[] : Array Value).size]!)) = ((Array.range (b * ie.size)).map (fun i => z.cells[i % z.cells.size]!)) := by simp [h0]
        simp only [hroom, Result.andThen_ok, run_sizeOf' hie, Int.toNat_natCast, if_pos h0, newRow, Sem.run_bind, run_newObj, Sem.run_pure]
        rw [hc]
        rfl
      · simp only [hroom, Result.andThen_ok, run_sizeOf' hie, Int.toNat_natCast, if_neg h0, run_zeroValue' hie hz', newRow, Sem.run_bind, run_newObj, Sem.run_pure]
        rfl
    · exact OKV.fail _ _
  · exact OKV.fail _ _

end
end Go.Eng
/- The engine's operations are the model's: append, copy. -/
namespace Go.Eng

section
variable {E : Env} {c : Cx} {H : Heap} {w : World}

theorem V.slice_inv {b o len : Nat} {cap : ACap} {x : Value} (h : V c (.slice b o len cap) x) : ∃ B k o' cp, c.rho b = some (B, k) ∧ x = .slice (some ⟨B, o', none⟩) len cp ∧ capOK c b o cap cp ∧ len ≤ cp ∧ (o' = k + o ∨ cp = 0) := by
  obtain ⟨B, k, o', cp, a, e, r⟩ := h
  cases e
  exact ⟨B, k, o', cp, a, rfl, r⟩

/-- how many elements there are -/
theorem lenK_spec {Φ : OR → Prop} (hf : ∀ n, Φ (.fail n)) {v : AV} {x : Value} (hv : V c v x) {k : Nat → OR}
    (hk : ∀ n, (∀ w' : World, (Builtin.lenOf x).run E.P w' = .ok n w') → (∀ b o l cap, v = .slice b o l cap → n = l) → (v = .nils → n = 0) → (∀ s, v = .str s → n = s.length) → Φ (k n)) : Φ (lenK v k) := by
  unfold lenK
  split
  · cases hv
    exact hk 0 (fun _ => rfl) (fun _ _ _ _ e => by cases e) (fun _ => rfl) (fun _ e => by cases e)
  · obtain ⟨s, e, hs⟩ := hv; cases e
    refine slen_spec (hk _ (fun _ => ?_) (fun _ _ _ _ e => by cases e) (fun e => by cases e) (fun _ e => by cases e; rfl))
    rw [← hs]
    simp [Builtin.lenOf]
  · obtain ⟨B, k', o', cp, -, e, -⟩ := hv; cases e
    exact hk _ (fun _ => rfl) (fun _ _ _ _ e => by cases e; rfl) (fun e => by cases e) (fun _ e => by cases e)
  · exact hf _

theorem bytesV_SL : ∀ (l : List Nat) (bs : List UInt8), bs.map UInt8.toNat = l → SL c (bytesV l) (bs.map fun b => Value.int .u8 b.toNat)
  | [], [], _ => rfl
  | [], _ :: _, h => by simp at h
  | _ :: _, [], h => by simp at h
  | n :: l, b :: bs, h => by
    simp only [List.map_cons, List.cons.injEq] at h
    obtain ⟨h1, h2⟩ := h
    subst h1
    exact ⟨_, _, rfl, rfl, bytesV_SL l bs h2⟩
theorem bytes_one (bs : List UInt8) : ∀ y ∈ bs.map (fun b => Value.int .u8 (b.toNat : Int)), y.oneCell' = true := by
  intro y hy
  obtain ⟨b, -, rfl⟩ := List.mem_map.1 hy
  rfl

/-- the first elements' cells -/
theorem srcK_spec (hH : Hs E c H w) {Φ : OR → Prop} (hf : ∀ n, Φ (.fail n)) {v : AV} {x : Value} (hv : V c v x) {sz n : Nat} {k : AV → OR}
    (hn : ∀ b o l cap, v = .slice b o l cap → n ≤ l) (hs : ∀ s, v = .str s → n ≤ s.length)
    (hk : ∀ r zs, S c r zs → zs.length = n * sz → (∀ y ∈ zs, y.oneCell' = true) → (∀ w' : World, w'.heap = w.heap → (Builtin.firstCells sz n x).run E.P w' = .ok zs.toArray w') → Φ (k r)) : Φ (srcK E H sz n v k) := by
  unfold srcK
  split
  · cases hv
    split
    · exact hk .rnil [] rfl (by simp) (by simp) fun w' _ => by simp [Builtin.firstCells]
    · exact hf _
  · rename_i l
    split
    · rename_i h
      have h1 := Nat.eq_of_beq_eq_true h
      subst h1
      obtain ⟨s, e, hl⟩ := hv; cases e
      have hle := hs l rfl
      have e1 : (s.data.toList.take n).map UInt8.toNat = l.take n := by rw [List.map_take, hl]
      refine hk _ ((s.data.toList.take n).map fun b => Value.int .u8 b.toNat) (rofList_spec (bytesV_SL _ _ e1)) ?_ (bytes_one _) fun w' _ => ?_
      · rw [← hl] at hle
        simp at hle ⊢; omega
      · simp only [Builtin.firstCells, Sem.run_pure]
        congr 1
        apply Array.ext'
        simp [ByteArray.data_extract, List.extract_eq_take_drop]
    · exact hf _
  · rename_i b o len cap
    obtain ⟨B, k', o', cp, hr, e, hc, hle, ho⟩ := hv.slice_inv; cases e
    have hnl := hn _ _ _ _ rfl
    split
    · rename_i h
      have h0 : n * sz = 0 := Nat.eq_of_beq_eq_true h
      refine hk .rnil [] rfl (by simp [h0]) (by simp) fun w' _ => ?_
      simp only [Builtin.firstCells, h0]
      rfl
    · rename_i h
      have h0 : n * sz ≠ 0 := Nat.ne_of_beq_eq_false h
      have hn0 : n ≠ 0 := fun e => h0 (by rw [e, Nat.zero_mul])
      refine onCells_spec (hf _) fun fz e r hg => ?_
      obtain ⟨hlt, cs, lo, hi, hB, hone, -, -, pre, ys, post, hcs, hk', hs'⟩ := hH.cells hg hr
      refine rslice_spec (hf _) hs' fun y hle' hy => ?_
      have ho' : o' = k' + o := by rcases ho with h1 | h1 <;> omega
      subst ho'
      refine hk y ((ys.drop o).take (n * sz)) hy (by simp; have : o + n * sz ≤ ys.length := hle'; omega) (fun z hz => hone z (by rw [hcs]; simp [List.mem_of_mem_drop (List.mem_of_mem_take hz)])) fun w' hw' => ?_
      have hle2 : o + n * sz ≤ ys.length := hle'
      have hsz : cs.size = pre.length + (ys.length + post.length) := by rw [← Array.length_toList, hcs]; simp
      simp only [Builtin.firstCells]
      rw [run_loadCells_own (w := w') (by rw [hw']; exact hB) (by omega)]
      congr 1
      rw [hcs, List.drop_append, List.drop_of_length_le (by omega), List.nil_append, hk', show k' + o - k' = o by omega, List.drop_append_of_le_length (by omega), List.take_append_of_le_length (by simp; omega)]
  · exact hf _

/-- cells that a capacity has -/
theorem padK_spec (hH : Hs E c H w) {Φ : OR → Prop} (hf : ∀ n, Φ (.fail n)) {b o n : Nat} {cap : ACap} {B k' cp : Nat} (hr : c.rho b = some (B, k')) (hc : capOK c b o cap cp)
    {cs : Array Value} {e : Nat} {fr : Nat × Nat} (hB : w.heap[B]? = some (.cells cs e fr)) {pre ys post : List Value} (hcs : cs.toList = pre ++ (ys ++ post)) (hk' : pre.length = k') {r : AV} (hs : S c r ys)
    {sz : Nat} {k : AV → OR} (hle : n ≤ cp)
    (hk : ∀ r' ys' post', S c r' ys' → cs.toList = pre ++ (ys' ++ post') → o + n * sz ≤ ys'.length → Φ (k r')) : Φ (padK E e sz cap r (o + n * sz) k) := by
  unfold padK
  split
  · rename_i h
    have h' : o + n * sz ≤ ys.length := by rw [← rsize_spec hs]; exact Nat.le_of_ble_eq_true h
    exact hk r ys post hs hcs h'
  · rename_i h
    have hlt : ys.length < o + n * sz := by
      rw [← rsize_spec hs]
      exact Nat.lt_of_not_le fun h2 => by rw [Nat.ble_eq_true_of_le h2] at h; cases h
    split
    · exact hf _
    · rename_i j off
      split
      · rename_i hse
        have hse' := Nat.eq_of_beq_eq_true hse
        obtain ⟨g, q, hg, hog, rfl, hq, rfl⟩ := hc
        obtain ⟨B', k2, cs', e2, fr2, h1, h2, h3, h4⟩ := hH.own j g b q hg hq
        rw [hr] at h1; cases h1
        rw [hB] at h2; cases h2
        rw [h3, hse'] at h4
        have hq' : q = sz := by rw [h3, hse']
        subst hq'
        have hsz : cs.size = pre.length + (ys.length + post.length) := by rw [← Array.length_toList, hcs]; simp
        have hb : off * q + n * q ≤ g * q := by
          rw [← Nat.add_mul]; exact Nat.mul_le_mul_right _ (by omega)
        have hreps : SL c (repL .bad (off * q + n * q - rsize r)) (post.take (off * q + n * q - rsize r)) := by
          have : ∀ m (l : List Value), m ≤ l.length → SL c (repL .bad m) (l.take m) := by
            intro m
            induction m with
            | zero => intro l _; rfl
            | succ m ih =>
              intro l hl
              cases l with
              | nil => simp at hl
              | cons y l => exact ⟨y, _, rfl, ⟨y, rfl⟩, ih l (by simpa using hl)⟩
          refine this _ _ ?_
          rw [rsize_spec hs]; omega
        refine rmk_spec hs (rofList_spec hreps) fun r' hr' => hk r' (ys ++ post.take (off * q + n * q - rsize r)) (post.drop (off * q + n * q - rsize r)) hr' (by rw [hcs]; simp) ?_
        rw [List.length_append, List.length_take, rsize_spec hs]
        omega
      · exact hf _

/-! ### append -/
/-- the model's append behind its second argument -/
def appRest (elem : TypeId) (size : Nat) (zeros : Bool) (base : Option Addr) (sLen sCap n : Nat) (s : Value) (appended : Sem (Array Value)) : Sem Value := do
  let need := sLen + n
  if need ≤ sCap then
    let new ← appended
    if let some a := base then storeCells (a.add (sLen * size)) new.toList
    pure (.slice base need sCap)
  else
    if (need : Int) > IntKind.i64.max ∧ (zeros ∨ (← typeInfo elem).bytes = 0) then runtimePanic (.error "growslice: len out of range")
    if Builtin.nextslicecap need sCap * (← typeInfo elem).bytes > 2 ^ 48 then unsupported (.resourceLimit "")
    let newCap ← choose (.appendCap need sCap elem)
    askRoom (newCap * (← typeInfo elem).bytes)
    let old ← Builtin.firstCells size sLen s
    let new ← appended
    let rest := Builtin.zeroCells (← zeroValue elem).cells (newCap - need)
    pure (.slice (some (← newRow elem (old ++ new ++ rest))) need newCap)

/-- in place -/
theorem run_appRest_room {P : Program} {elem : TypeId} {size : Nat} {zeros : Bool} {B o' sLen sCap n : Nat} {s : Value} {appended : Sem (Array Value)} {news : List Value}
    (hle : sLen + n ≤ sCap) (ha : appended.run P w = .ok news.toArray w) {cs : Array Value} {e : TypeId} {lo hi : Nat} (hB : w.heap[B]? = some (.cells cs e (lo, hi)))
    (h1 : ∀ y ∈ news, y.oneCell' = true) (hfit : o' + sLen * size + news.length ≤ cs.size) (hf : ∀ j, j < cs.size → ¬ (lo ≤ j ∧ j < hi)) :
    (appRest elem size zeros (some ⟨B, o', none⟩) sLen sCap n s appended).run P w =
      .ok (.slice (some ⟨B, o', none⟩) (sLen + n) sCap) (World.setB w B (.cells (overL cs.toList (o' + sLen * size) news).toArray e (lo, hi))) := by
  unfold appRest
  simp only
  rw [if_pos hle]
  simp only [Sem.run_bind, ha, Result.andThen_ok, addr_add]
  rw [run_storeCells_own news 0 cs w hB h1 (by simpa using hfit) hf]
  rfl

/-- grown -/
theorem run_appRest_grow {P : Program} {elem : TypeId} {i : TypeInfo} {z : Value} {zeros : Bool} {base : Option Addr} {sLen sCap n : Nat} {s : Value} {appended : Sem (Array Value)} {olds news : List Value}
    (hi : P.info? elem = some i) (hz : i.zero = some z) (hlt : sCap < sLen + n) (hb : sLen + n ≤ 1000000000) (hby : i.bytes ≤ 100000)
    (ha : ∀ w' : World, w'.heap = w.heap → appended.run P w' = .ok news.toArray w') (ho : ∀ w' : World, w'.heap = w.heap → (Builtin.firstCells i.size sLen s).run P w' = .ok olds.toArray w') :
    (appRest elem i.size zeros base sLen sCap n s appended).run P w =
      .ok (.slice (some ⟨w.heap.size, 0, none⟩) (sLen + n) (grownCap w (sLen + n) sCap elem)) (World.push w.drew (.cells (olds.toArray ++ news.toArray ++ Builtin.zeroCells z.cells (grownCap w (sLen + n) sCap elem - (sLen + n))) elem)) := by
  unfold appRest
  simp only
  rw [if_neg (by omega)]
  have hmax : IntKind.i64.max = 9223372036854775807 := rfl
  have hbb : (sLen + n) * i.bytes ≤ 140737488355328 := Nat.le_trans (Nat.mul_le_mul hb hby) (by decide)
  have hfit := growslice_fits hlt hbb
  have e48 : (2 : Nat) ^ 48 = 281474976710656 := by decide
  simp only [Sem.run_bind, run_typeInfo' hi, Result.andThen_ok]
  rw [if_neg (fun h => by rw [hmax] at h; have := h.1; omega)]
  simp only [Sem.run_bind, Sem.run_pure, Result.andThen_ok, run_typeInfo' hi]
  rw [if_neg (by rw [e48]; omega)]
  simp only [Sem.run_bind, Sem.run_pure, Result.andThen_ok, run_typeInfo' hi, run_choose, Question.forced, Bool.false_eq_true, if_false, run_askRoom]
  rw [ho { w with drawn := w.drawn + 1 } rfl]
  simp only [Result.andThen_ok]
  rw [ha { w with drawn := w.drawn + 1 } rfl]
  simp only [Result.andThen_ok, Sem.run_bind, run_zeroValue' hi hz, newRow, run_newObj, Sem.run_pure]
  rfl

/-- the second argument's cells, as the model asks for them -/
def appNew (elem : TypeId) (size n : Nat) (zeros : Bool) (x : Value) : Sem (Array Value) :=
  if !zeros then Builtin.firstCells size n x
  else if n * size = 0 then pure #[]
  else do pure (Builtin.zeroCells (← zeroValue elem).cells n)

theorem slTy_spec {P : Program} {ts : Array TypeId} {e : TypeId} (h : slTy P ts = some e) : ∃ t, ts[0]? = some t ∧ P.underlying t = some (.slice e) := by
  unfold slTy at h
  split at h
  · rename_i t ht
    split at h
    · rename_i e' hu; cases h; exact ⟨t, ht, hu⟩
    · cases h
  · cases h
theorem arg2K_spec {P : Program} {ts : Array TypeId} {b : Bool} (h : arg2K P ts = some b) :
    (ts[1]? = none ∧ b = false) ∨ ∃ t d, ts[1]? = some t ∧ P.underlying t = some d ∧ ((b = true ∧ ∃ k, d = .int k) ∨ (b = false ∧ ∀ k, d ≠ .int k)) := by
  unfold arg2K at h
  split at h
  · rename_i t ht
    right
    split at h
    · rename_i k hu; cases h; exact ⟨t, _, ht, hu, .inl ⟨rfl, k, rfl⟩⟩
    · rename_i d hd hu; cases h; exact ⟨t, d, ht, hu, .inr ⟨rfl, fun k e => hd k e⟩⟩
    · cases h
  · rename_i ht
    cases h
    exact .inl ⟨ht, rfl⟩

theorem run_append_eq {P : Program} {ts : Array TypeId} {ty : TypeId} {elem : TypeId} {i : TypeInfo} {zeros : Bool} {base : Option Addr} {sLen sCap n : Nat} {x : Value}
    (h0 : slTy P ts = some elem) (hi : P.info? elem = some i) (hz : arg2K P ts = some zeros)
    (hn : zeros = false → (Builtin.lenOf x).run P w = .ok n w) (hn' : zeros = true → ∃ k, x = .int k (.ofNat n) ∧ n ≤ 1000000 ∧ i.bytes ≤ 1000000)
    (hsm : sCap < sLen + n → sLen + n ≤ 1000000000 ∧ i.bytes ≤ 100000) :
    (Builtin.append_ ts ty #[.slice base sLen sCap, x]).run P w = (appRest elem i.size zeros base sLen sCap n (.slice base sLen sCap) (appNew elem i.size n zeros x)).run P w := by
  obtain ⟨t, ht, hu⟩ := slTy_spec h0
  have e48i : (2 : Int) ^ 48 = 281474976710656 := by rfl
  have hbig : ¬ (sLen + n ≤ sCap) → (((sLen + n : Nat) : Int) > IntKind.i64.max) = False ∧ ¬ (Builtin.nextslicecap (sLen + n) sCap * i.bytes > 2 ^ 48) := fun hle => by
    obtain ⟨hb, hby⟩ := hsm (by omega)
    have hmax : IntKind.i64.max = 9223372036854775807 := rfl
    have hbb : (sLen + n) * i.bytes ≤ 140737488355328 := Nat.le_trans (Nat.mul_le_mul hb hby) (by decide)
    have hfit := growslice_fits (show sCap < sLen + n by omega) hbb
    have e48 : (2 : Nat) ^ 48 = 281474976710656 := by decide
    exact ⟨eq_false (by rw [hmax]; omega), by rw [e48]; omega⟩
  unfold Builtin.append_
  simp only [ht, List.getElem?_toArray, List.getElem?_cons_zero, List.getElem?_cons_succ, Sem.run_bind, run_underlying hu, Result.andThen_ok, run_sizeOf' hi]
  rcases arg2K_spec hz with ⟨h1, rfl⟩ | ⟨t1, d, h1, hd, ⟨rfl, k, rfl⟩ | ⟨rfl, hk⟩⟩
  · rw [h1]
    simp only [Sem.run_bind, Sem.run_pure, Result.andThen_ok, Bool.false_eq_true, if_false, hn rfl]
    by_cases hle : sLen + n ≤ sCap
    · simp only [if_pos hle, appRest, appNew, Bool.not_true, Bool.not_false, Bool.false_eq_true, if_true, if_false]
      cases base <;> rfl
    · obtain ⟨hc1, hc2⟩ := hbig hle
      simp only [if_neg hle, appRest, appNew, Bool.not_true, Bool.not_false, Bool.false_eq_true, if_true, if_false, Sem.run_bind, run_typeInfo' hi, Result.andThen_ok, hc1, false_and, Sem.run_pure, if_neg hc2]
  · rw [h1]
    obtain ⟨k, rfl, h2, h3⟩ := hn' rfl
    have wn : IntKind.i64.wrap (Int.ofNat n) = n := wrap_small (k := .i64) (show n ≤ 9223372036854775807 by omega)
    have hbb : n * i.bytes ≤ 1000000000000 := Nat.le_trans (Nat.mul_le_mul h2 h3) (by decide)
    have hbi : (n : Int) * i.bytes ≤ 1000000000000 := by
      rw [← Int.natCast_mul]; exact Int.ofNat_le.2 hbb
    simp only [Sem.run_bind, run_underlying hd, Sem.run_pure, Result.andThen_ok, if_true, asInt, asIntOf, wn]
    rw [if_neg (by omega)]
    simp only [Sem.run_bind, Sem.run_pure, Result.andThen_ok, run_typeInfo' hi]
    rw [if_neg (by rw [e48i]; omega)]
    simp only [Sem.run_bind, Sem.run_pure, Result.andThen_ok, Int.toNat_natCast]
    by_cases hle : sLen + n ≤ sCap
    · simp only [if_pos hle, appRest, appNew, Bool.not_true, Bool.not_false, Bool.false_eq_true, if_true, if_false]
      cases base <;> rfl
    · obtain ⟨hc1, hc2⟩ := hbig hle
      simp only [if_neg hle, appRest, appNew, Bool.not_true, Bool.not_false, Bool.false_eq_true, if_true, if_false, Sem.run_bind, run_typeInfo' hi, Result.andThen_ok, hc1, false_and, Sem.run_pure, if_neg hc2]
  · rw [h1]
    simp only [Sem.run_bind, run_underlying hd, Sem.run_pure, Result.andThen_ok, hn rfl]
    have hm : (match d with | TypeDesc.int k => true | _ => false) = false := by cases d <;> first | rfl | exact absurd rfl (hk _)
    simp only [hm, Bool.false_eq_true, if_false, Sem.run_bind, hn rfl, Result.andThen_ok]
    by_cases hle : sLen + n ≤ sCap
    · simp only [if_pos hle, appRest, appNew, Bool.not_true, Bool.not_false, Bool.false_eq_true, if_true, if_false]
      cases base <;> rfl
    · obtain ⟨hc1, hc2⟩ := hbig hle
      simp only [if_neg hle, appRest, appNew, Bool.not_true, Bool.not_false, Bool.false_eq_true, if_true, if_false, Sem.run_bind, run_typeInfo' hi, Result.andThen_ok, hc1, false_and, Sem.run_pure, if_neg hc2]
end
end Go.Eng
