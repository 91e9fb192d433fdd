/- Drawn regions: the state between, and what an operation meets in it. -/
import Derived.Test.YtmhehkkbmkmlkaaGreatEngI
namespace Go.Eng

/-- an operation that the engine has gone through -/
structure Rec where
  x : DOp
  v : AV
  b : Nat        -- the next block then
  sil : Bool     -- has it laid one?
def recKs (rs : List Rec) : List (Option Nat) := rs.map fun r => r.x.o.dst
def recVs (rs : List Rec) : List AV := rs.map fun r => r.v
def tmOf (M d : Nat) (tm0 : AH) : List Rec → AH
  | [] => tm0
  | r :: rs => putT (stOf M d r.x.o.dst) r.v (tmOf M d tm0 rs)
def recP (M d nt : Nat) (ops : Array Oper) (x : DOp) (rs : List Rec) : POp := prepOp M d nt ops.toList (recKs rs) x.o

/-- what is so of an operation that the machine has not done yet -/
def Pending (E : Env) (M d nt : Nat) (ops : Array Oper) (tm0 : AH) (n0 : Nat) (c : Cx) (H : Heap) (pend : List Pend) (rs : List Rec) (r : Rec) : Prop :=
  (GNo (recP M d nt ops r.x rs).gd (recVs rs) (tmOf M d tm0 rs) ∧ r.v = undefA) ∨
  (GYes (recP M d nt ops r.x rs).gd (recVs rs) (tmOf M d tm0 rs) ∧
    ((kindOf E.P r.x.o.op = .pure ∧ ∃ H1 K, opA r.x.o.op E (recP M d nt ops r.x rs).xs (recVs rs) (tmOf M d tm0 rs) H1 = .val r.v K) ∨
     (kindOf E.P r.x.o.op = .light ∧ (∃ K, opA r.x.o.op E (recP M d nt ops r.x rs).xs (recVs rs) (tmOf M d tm0 rs) H = .val r.v K) ∧
        ({ i := r.x.i, p := recP M d nt ops r.x rs, l := recVs rs, tm := tmOf M d tm0 rs, v := r.v, b := none } : Pend) ∈ pend) ∨
     (kindOf E.P r.x.o.op = .silent ∧ r.sil = true ∧ ∃ H1 K, H1.next = r.b ∧ opA r.x.o.op E (recP M d nt ops r.x rs).xs (recVs rs) (tmOf M d tm0 rs) H1 = .val r.v K ∧ hget E H H1.next = hget E K H1.next ∧ c.rho H1.next = none ∧ n0 ≤ H1.next ∧ H1.next < H.next ∧
        ({ i := r.x.i, p := recP M d nt ops r.x rs, l := recVs rs, tm := tmOf M d tm0 rs, v := r.v, b := some (H1.next, hget E K H1.next) } : Pend) ∈ pend)))

/-- the state between: the engine has gone through 'done', the machine through D -/
structure Inv (E : Env) (fr : Fr) (ops : Array Oper) (cl : List DOp) (c0 : Cx) (H0 : Heap) (w0 : World) (tm0 : AH) (a0 : Act) (cs0 : List Frame)
    (c : Cx) (H : Heap) (w : World) (a : Act) (cs : List Frame) (ds : List ADef) (cm : AMode) (D : List Nat) (done : List Rec) (rest : List DOp) (pend : List Pend) : Prop where
  split : cl = (done.map (·.x)).reverse ++ rest
  hs : Hs E c H w
  ext : Ext E c0 H0 w0 c H w
  size : a.tmps.size = a0.tmps.size
  ds : DefsOK E c ds a.defers
  cs : CallersOK c fr.deferred cm cs0 cs
  sub : ∀ i ∈ D, ∃ r ∈ done, r.x.i = i
  closed : ∀ i ∈ D, ∀ j, bit ((Region.before ops).getD i 0) j = true → j ∈ D
  vals : ∀ r ∈ done, r.x.i ∈ D → ∀ t, r.x.o.dst = some t → t < a.tmps.size → V c r.v (a.tmps.getD t undef)
  old : ∀ t, (∀ r ∈ done, r.x.i ∈ D → r.x.o.dst ≠ some t) → a.tmps.getD t undef = a0.tmps.getD t undef
  heavy : ∀ r ∈ done, isHeavy r.x = true → r.x.i ∈ D
  ids : done.Pairwise (fun new old => old.sil = true → old.b < new.b)
  idn : ∀ r ∈ done, r.sil = true → r.b < H.next
  pen : ∀ rs1 r rs2, done = rs1 ++ r :: rs2 → r.x.i ∉ D → Pending E fr.M fr.d fr.nt ops tm0 H0.next c H pend rs2 r

/-- what a region begins with -/
structure Base (E : Env) (fr : Fr) (ops : Array Oper) (cl : List DOp) (c0 : Cx) (H0 : Heap) (w0 : World) (tm0 : AH) (a0 : Act) : Prop where
  dr : DrawnOK E.P ops (Region.before ops) cl
  tm : TM c0 fr.M fr.d tm0 a0.tmps
  sz : fr.nt ≤ a0.tmps.size
  facts : FactsOK E c0

theorem idxOf_rec {t : Nat} : ∀ {rs : List Rec} {i : Nat}, idxOf t (recKs rs) 0 = some i → ∃ rs1 r rs2, rs = rs1 ++ r :: rs2 ∧ r.x.o.dst = some t ∧ nth i (recVs rs) = r.v
  | [], i, h => by simp [recKs, idxOf] at h
  | r :: rs, i, h => by
    have hshift : ∀ i, idxOf t (recKs rs) 1 = some i → ∃ rs1 r' rs2, r :: rs = rs1 ++ r' :: rs2 ∧ r'.x.o.dst = some t ∧ nth i (recVs (r :: rs)) = r'.v := by
      intro i h
      obtain ⟨j, e, h2⟩ := idxOf_shift h
      obtain ⟨rs1, r', rs2, h3, h4, h5⟩ := idxOf_rec (rs := rs) (i := j) (by rw [h2]; simp)
      refine ⟨r :: rs1, r', rs2, by rw [h3]; rfl, h4, ?_⟩
      rw [e, Nat.add_comm]
      exact h5
    change idxOf t (r.x.o.dst :: recKs rs) 0 = some i at h
    cases hd : r.x.o.dst with
    | none => rw [hd] at h; exact hshift i h
    | some u =>
      rw [hd] at h
      unfold idxOf at h
      simp only at h
      split at h
      · rename_i hu
        cases h
        have : u = t := Nat.eq_of_beq_eq_true hu
        subst this
        exact ⟨[], r, rs, rfl, hd, rfl⟩
      · exact hshift i h
theorem idxOf_none {t : Nat} : ∀ {rs : List Rec} {n : Nat}, idxOf t (recKs rs) n = none → ∀ r ∈ rs, r.x.o.dst ≠ some t
  | [], _, _, _, h => by cases h
  | r :: rs, n, h, r', hr' => by
    change idxOf t (r.x.o.dst :: recKs rs) n = none at h
    cases hd : r.x.o.dst with
    | none =>
      rw [hd] at h
      rcases List.mem_cons.1 hr' with rfl | hr'
      · rw [hd]; simp
      · exact idxOf_none (rs := rs) (n := n + 1) h r' hr'
    | some u =>
      rw [hd] at h
      unfold idxOf at h
      simp only at h
      split at h
      · cases h
      · rename_i hu
        rcases List.mem_cons.1 hr' with rfl | hr'
        · rw [hd]
          intro e
          cases e
          simp at hu
        · exact idxOf_none h r' hr'

theorem tmOf_old {c : Cx} {M d : Nat} {tm0 : AH} {tmps : Array Value} (h : TM c M d tm0 tmps) {t : Nat} (hb : bit M t = true) : ∀ {rs : List Rec}, (∀ r ∈ rs, r.x.o.dst ≠ some t) → tget (digits d t) (tmOf M d tm0 rs) = tget (digits d t) tm0
  | [], _ => rfl
  | r :: rs, hr => by
    have ih := tmOf_old h hb (rs := rs) fun r' hr' => hr r' (List.mem_cons_of_mem _ hr')
    have hd := hr r List.mem_cons_self
    show tget (digits d t) (putT (stOf M d r.x.o.dst) r.v (tmOf M d tm0 rs)) = _
    cases hdd : r.x.o.dst with
    | none => exact ih
    | some u =>
      have hne : u ≠ t := fun e => hd (by rw [hdd, e])
      unfold stOf
      simp only
      split
      · rename_i hbu
        unfold putT
        simp only
        rw [tget_tsetP _ _ _ _ (by rw [digits_length, digits_length]), if_neg fun h0 => hne (digits_inj d t u (h t hb).1 (h u hbu).1 h0).symm]
        exact ih
      · exact ih
theorem tmOf_new {M d : Nat} {tm0 : AH} {t : Nat} (hb : bit M t = true) (hlt : t < 4 ^ d) (hM : ∀ u, bit M u = true → u < 4 ^ d) : ∀ {rs1 rs2 : List Rec} {r : Rec}, (∀ r' ∈ rs1, r'.x.o.dst ≠ some t) → r.x.o.dst = some t → valOf (tget (digits d t) (tmOf M d tm0 (rs1 ++ r :: rs2))) = r.v
  | [], rs2, r, _, hd => by
    show valOf (tget (digits d t) (putT (stOf M d r.x.o.dst) r.v (tmOf M d tm0 rs2))) = r.v
    rw [hd]
    have e1 : stOf M d (some t) = some (digits d t) := by unfold stOf; simp only [hb]
    rw [e1]
    unfold putT
    simp only
    rw [tget_tsetP _ _ _ _ rfl, if_pos rfl]
    rfl
  | r' :: rs1, rs2, r, hr, hd => by
    have ih := tmOf_new (tm0 := tm0) hb hlt hM (rs1 := rs1) (rs2 := rs2) (r := r) (fun q hq => hr q (List.mem_cons_of_mem _ hq)) hd
    have hd' := hr r' List.mem_cons_self
    show valOf (tget (digits d t) (putT (stOf M d r'.x.o.dst) r'.v (tmOf M d tm0 (rs1 ++ r :: rs2)))) = _
    cases hdd : r'.x.o.dst with
    | none => exact ih
    | some u =>
      have hne : u ≠ t := fun e => hd' (by rw [hdd, e])
      unfold stOf
      simp only
      split
      · rename_i hbu
        unfold putT
        simp only
        rw [tget_tsetP _ _ _ _ (by rw [digits_length, digits_length]), if_neg fun h0 => hne (digits_inj d t u hlt (hM u hbu) h0).symm]
        exact ih
      · exact ih

section
variable {E : Env} {fr : Fr} {ops : Array Oper} {cl : List DOp} {c0 : Cx} {H0 : Heap} {w0 : World} {tm0 : AH} {a0 : Act} {cs0 : List Frame}
  {c : Cx} {H : Heap} {w : World} {a : Act} {cs : List Frame} {ds : List ADef} {cm : AMode} {D : List Nat} {done : List Rec} {rest : List DOp} {pend : List Pend}

theorem Inv.ordDone (hb : Base E fr ops cl c0 H0 w0 tm0 a0) (h : Inv E fr ops cl c0 H0 w0 tm0 a0 cs0 c H w a cs ds cm D done rest pend) : OrdL (done.map (·.x)) := by
  have := hb.dr.ord
  rw [h.split, List.reverse_append, List.reverse_reverse] at this
  exact this.tail
theorem Inv.isD (hb : Base E fr ops cl c0 H0 w0 tm0 a0) (h : Inv E fr ops cl c0 H0 w0 tm0 a0 cs0 c H w a cs ds cm D done rest pend) {r : Rec} (hr : r ∈ done) : IsD E.P ops (Region.before ops) r.x :=
  hb.dr.isD _ (by rw [h.split]; exact List.mem_append_left _ (List.mem_reverse.2 (List.mem_map_of_mem hr)))
theorem Inv.isDrest (hb : Base E fr ops cl c0 H0 w0 tm0 a0) (h : Inv E fr ops cl c0 H0 w0 tm0 a0 cs0 c H w a cs ds cm D done rest pend) {x : DOp} (hr : x ∈ rest) : IsD E.P ops (Region.before ops) x :=
  hb.dr.isD _ (by rw [h.split]; exact List.mem_append_right _ hr)

/-- operands, as they were when the engine went through the operation -/
theorem opnd (hb : Base E fr ops cl c0 H0 w0 tm0 a0) (h : Inv E fr ops cl c0 H0 w0 tm0 a0 cs0 c H w a cs ds cm D done rest pend) {x : DOp} {rs1 rs2 : List Rec} (hd : done = rs1 ++ rs2) (hx : IsD E.P ops (Region.before ops) x) (hxD : x.i ∉ D)
    (hnot : ∀ r ∈ rs2, r.x.i ≠ x.i) (hord : ∀ j, bit x.anc j = true → ∃ r ∈ rs2, r.x.i = j) (hanc : ∀ j, bit x.anc j = true → j ∈ D) (y : Operand) (hy : ∀ t, y = .tmp t → bit x.reads t = true) :
    V c (ev (srcOf fr.M fr.d fr.nt (recKs rs2) y) (recVs rs2) (tmOf fr.M fr.d tm0 rs2)) (a.eval y) := by
  cases y with
  | const v => exact absV_spec 8 v
  | global g => exact V.bad _ _
  | func f => exact ⟨#[], #[], rfl, rfl, rfl⟩
  | tmp t =>
    have hr := hy t rfl
    have hOrd := h.ordDone hb
    unfold srcOf
    simp only
    split
    · rename_i i hi
      split
      · rename_i hlt
        obtain ⟨q1, r, q2, he, hdst, hv⟩ := idxOf_rec hi
        have hrm : r ∈ done := by rw [hd, he]; simp
        show V c (nth i (recVs rs2)) _
        rw [hv]
        have hlt' : t < fr.nt := by simpa using hlt
        refine h.vals r hrm ?_ t hdst (by rw [h.size]; exact Nat.lt_of_lt_of_le hlt' hb.sz)
        rcases (hb.dr.apart x r.x hx (h.isD hb hrm) t hdst).1 hr with e | e | e
        · exact absurd e.symm (hnot r (by rw [he]; simp))
        · exact hanc _ e
        · exfalso
          rw [hd, he, List.map_append, List.map_append, List.map_cons] at hOrd
          obtain ⟨z, hz, hzi⟩ := hOrd.tail.tail.1 _ e
          obtain ⟨r', hr', rfl⟩ := List.mem_map.1 hz
          exact hnot r' (by rw [he]; simp [hr']) hzi
      · exact V.bad _ _
    · rename_i hnone
      split
      · rename_i hbit
        have hno := idxOf_none hnone
        have e1 := tmOf_old hb.tm hbit (rs := rs2) hno
        show V c (valOf (tget (digits fr.d t) (tmOf fr.M fr.d tm0 rs2))) (a.tmps.getD t undef)
        rw [e1]
        have e2 : a.tmps.getD t undef = a0.tmps.getD t undef := by
          refine h.old t fun r hrm hrD hdst => ?_
          rcases (hb.dr.apart x r.x hx (h.isD hb hrm) t hdst).1 hr with e | e | e
          · exact hxD (e ▸ hrD)
          · obtain ⟨r', hr', hi'⟩ := hord _ e
            have : r'.x = r.x := (h.isD hb (by rw [hd]; exact List.mem_append_right _ hr')).same (h.isD hb hrm) hi'
            exact hno r' hr' (by rw [this]; exact hdst)
          · have hanc' : bit ((Region.before ops).getD r.x.i 0) x.i = true := by
              obtain ⟨o, -, h2⟩ := h.isD hb hrm
              have : r.x.anc = (Region.before ops).getD r.x.i 0 := by rw [h2]; rfl
              rw [← this]; exact e
            exact hxD (h.closed _ hrD _ hanc')
        rw [e2]
        exact ((hb.tm t hbit).2.2).mono h.ext.le
      · exact V.bad _ _

theorem reads_of {P : Program} {bef : Array Nat} {x : DOp} (hx : IsD P ops bef x) : (∀ t, Operand.tmp t ∈ x.o.op.operands.toList → bit x.reads t = true) ∧ (∀ t, t ∈ gdOf ops.toList x.o → bit x.reads t = true) := by
  obtain ⟨o, -, h2⟩ := hx
  have e : x.reads = bitsOf (gdOf ops.toList x.o ++ tmpsOf x.o.op.operands.toList) := by rw [h2]; rfl
  rw [e]
  exact ⟨fun t h => bitsOf_mem (List.mem_append_right _ (tmpsOf_mem h)), fun t h => bitsOf_mem (List.mem_append_left _ h)⟩
theorem kind_of {P : Program} {bef : Array Nat} {x : DOp} (hx : IsD P ops bef x) : x.k = kindOf P x.o.op ∧ x.anc = bef.getD x.i 0 ∧ ops[x.i]? = some x.o := by
  obtain ⟨o, h1, h2⟩ := hx
  have e : x.o = o := by rw [h2]; rfl
  refine ⟨by rw [h2]; rfl, by rw [h2]; rfl, by rw [e]; exact h1⟩
end
end Go.Eng
/- Drawn regions: the engine goes on; the machine does what the engine has gone through. -/
namespace Go.Eng

theorem sameB_eq {x y : AH} (h : sameB x y = true) : x = y := by
  unfold sameB at h
  split at h
  · rw [Bool.and_eq_true, Bool.and_eq_true] at h
    obtain ⟨h1, h2, h3⟩ := h
    rw [eq_of_beq h1, Nat.eq_of_beq_eq_true h2, of_decide_eq_true h3]
  · rw [Nat.eq_of_beq_eq_true h]
  · cases h

/-- what is asked again -/
def Asked (E : Env) (H : Heap) (q : Pend) : Prop := match q.b with
  | none => ∃ K, opA q.p.op E q.p.xs q.l q.tm H = .val q.v K
  | some (b, x) => hget E H b = x
theorem askPend_ok {Φ : Res → Prop} (hf : ∀ n, Φ (.fail n)) {E : Env} {H : Heap} {anc : Nat} : ∀ (pend : List Pend) (k : List Pend → Res),
    (∀ pend', (∀ q ∈ pend, bit anc q.i = false → q ∈ pend' ∧ Asked E H q) → Φ (k pend')) → Φ (askPend E H anc pend k)
  | [], k, h => h [] fun q hq => absurd hq List.not_mem_nil
  | q :: l, k, h => by
    unfold askPend
    split
    · rename_i hb
      refine askPend_ok hf l k fun pend' hp => h pend' fun q' hq' hb' => ?_
      rcases List.mem_cons.1 hq' with rfl | hq'
      · rw [hb] at hb'; cases hb'
      · exact hp q' hq' hb'
    · have hrec : Asked E H q → Φ (askPend E H anc l fun r => k (q :: r)) := fun hq => askPend_ok hf l _ fun pend' hp => h (q :: pend') fun q' hq' hb' => by
        rcases List.mem_cons.1 hq' with rfl | hq'
        · exact ⟨List.mem_cons_self, hq⟩
        · exact ⟨List.mem_cons_of_mem _ (hp q' hq' hb').1, (hp q' hq' hb').2⟩
      unfold sameVal
      split
      · rename_i hqb
        split
        · rename_i v' K hv
          split
          · rename_i he
            have he' : v' = q.v := of_decide_eq_true he
            subst he'
            exact hrec (by unfold Asked; rw [hqb]; exact ⟨K, hv⟩)
          · exact hf _
        · exact hf _
      · rename_i b x hqb
        split
        · rename_i he
          exact hrec (by unfold Asked; rw [hqb]; exact sameB_eq he)
        · exact hf _

section
variable {E : Env} {self : Cmd → CRes} {fr : Fr} {ops : Array Oper} {cl : List DOp} {c0 : Cx} {H0 : Heap} {w0 : World} {tm0 : AH} {a0 : Act} {cs0 : List Frame}
  {c : Cx} {H : Heap} {w : World} {a : Act} {cs : List Frame} {ds : List ADef} {cm : AMode} {D : List Nat} {done : List Rec} {rest : List DOp} {pend : List Pend}

theorem pending_next {M d nt : Nat} {n0 : Nat} {c' : Cx} {H' : Heap} {pend' : List Pend} {rs : List Rec} {r : Rec} (h : Pending E M d nt ops tm0 n0 c H pend rs r) (hr : r.sil = true → c'.rho r.b = c.rho r.b) (hn : H.next ≤ H'.next)
    (hp : ∀ q ∈ pend, q.i = r.x.i → q ∈ pend' ∧ Asked E H' q) : Pending E M d nt ops tm0 n0 c' H' pend' rs r := by
  rcases h with h | ⟨hg, h⟩
  · exact .inl h
  · refine .inr ⟨hg, ?_⟩
    rcases h with h | ⟨h1, h2, h3⟩ | ⟨h1, hsil, H1, K, hb, h2, h3, h4, h5, h6, h7⟩
    · exact .inl h
    · obtain ⟨q1, q2⟩ := hp _ h3 rfl
      exact .inr (.inl ⟨h1, q2, q1⟩)
    · obtain ⟨q1, q2⟩ := hp _ h7 rfl
      exact .inr (.inr ⟨h1, hsil, H1, K, hb, h2, q2, by rw [hb, hr hsil, ← hb]; exact h4, h5, Nat.lt_of_lt_of_le h6 hn, q1⟩)

theorem pending_same {M d nt : Nat} {n0 : Nat} {c' : Cx} {pend' : List Pend} {rs : List Rec} {r : Rec} (h : Pending E M d nt ops tm0 n0 c H pend rs r) (hr : r.sil = true → c'.rho r.b = c.rho r.b)
    (hp : ∀ q ∈ pend, q ∈ pend') : Pending E M d nt ops tm0 n0 c' H pend' rs r := by
  rcases h with h | ⟨hg, h⟩
  · exact .inl h
  · refine .inr ⟨hg, ?_⟩
    rcases h with h | ⟨h1, h2, h3⟩ | ⟨h1, hsil, H1, K, hb, h2, h3, h4, h5, h6, h7⟩
    · exact .inl h
    · exact .inr (.inl ⟨h1, h2, hp _ h3⟩)
    · exact .inr (.inr ⟨h1, hsil, H1, K, hb, h2, h3, by rw [hb, hr hsil, ← hb]; exact h4, h5, h6, hp _ h7⟩)

/-- a silent operation lays one block -/
def Lays (E : Env) (H : Heap) (o : OR) : Prop := ∀ v K, o = .val v K → H.next < E.lim ∧ ∃ y, K = newH E H y
theorem Lays.fail (n : Nat) : Lays E H (.fail n) := fun v K h => by cases h
theorem Lays.new {x : AH} {k : Nat → AV} : Lays E H (hnew E H x fun b H' => .val (k b) H') := by
  rw [hnew_eq]
  split
  · rename_i hl
    intro v K h; cases h; exact ⟨hl, x, rfl⟩
  · exact .fail _
theorem Lays.newR {e : Nat} {r : AV} {k : Nat → AV} : Lays E H (hnewR E H e r fun b H' => .val (k b) H') := by
  unfold hnewR
  cases Nat.beq e E.tbl with
  | true => exact .fail _
  | false => exact Lays.new
theorem Lays.newW {e : Nat} {r : AV} {k : Nat → AV} : Lays E H (hnewW E H e r fun b H' => .val (k b) H') := by
  unfold hnewW
  cases wholeB E e r with
  | false => exact .fail _
  | true => exact Lays.new
theorem silent_lays {op : Op} (h : kindOf E.P op = .silent) {xs : List Src} {l : List AV} {tm : AH} : Lays E H (opA op E xs l tm H) := by
  cases op <;> first | (simp [kindOf] at h; done) | skip
  case alloc t =>
    exact boolRec_spec (Φ := Lays E H) (fun _ => .fail _) fun _ => Lays.new (k := fun b => .ptr b 0)
  case box t x =>
    show Lays E H (hBox E t _ H)
    unfold hBox cellsK
    exact onAgg_spec (Φ := Lays E H) (fun _ => boolRec_spec (Φ := Lays E H) (fun _ => .fail _) fun _ => Lays.newW (k := fun b => .ptr b 0)) fun r _ => Lays.newW (k := fun b => .ptr b 0)
  case buildSlice t n ps =>
    show Lays E H (hBuildSlice E t n ps _ H)
    unfold hBuildSlice
    split
    · exact fillK_all (Φ := Lays E H) (Lays.fail ·) fun r => Lays.newR (k := fun b => .slice b 0 n (.known n))
    · exact .fail _
  case makeMap t r =>
    cases r with
    | none => exact Lays.new (k := fun b => .mapv b)
    | some _ => exact .fail _
  case makeSlice t a b =>
    show Lays E H (hMakeSlice E t _ _ H)
    unfold hMakeSlice
    split
    · refine onNat_spec (Φ := Lays E H) (Lays.fail ·) fun j m _ => onNat_spec (Φ := Lays E H) (Lays.fail ·) fun j' n _ => ?_
      split
      · exact Lays.newR (k := fun b => .slice b 0 m (.known n))
      · exact .fail _
    · exact .fail _
  case convert s d x =>
    exfalso
    unfold kindOf at h
    simp only at h
    split at h <;> cases h
  case call c =>
    exfalso
    obtain ⟨cl, args, ts⟩ := c
    cases cl with
    | value f => simp [kindOf] at h
    | invoke r m => simp [kindOf] at h
    | builtin b => cases b <;> simp [kindOf] at h

/-- an operation of the rest is none of those gone through -/
theorem Inv.apart (hb : Base E fr ops cl c0 H0 w0 tm0 a0) {x : DOp} (h : Inv E fr ops cl c0 H0 w0 tm0 a0 cs0 c H w a cs ds cm D done (x :: rest) pend) : (∀ j, bit x.anc j = true → ∃ r ∈ done, r.x.i = j) ∧ (∀ r ∈ done, r.x.i ≠ x.i) ∧ x.i ∉ D ∧ (∀ y ∈ rest, y.i ≠ x.i) := by
  have hord := hb.dr.ord
  have e : cl.reverse = rest.reverse ++ (x :: done.map (·.x)) := by
    rw [h.split]; simp
  rw [e] at hord
  obtain ⟨h1, h2, -⟩ := hord.tail
  have hne : ∀ r ∈ done, r.x.i ≠ x.i := fun r hr => h2 r.x (List.mem_map_of_mem hr)
  refine ⟨fun j hj => ?_, hne, fun hD => ?_, fun y hy => ?_⟩
  · obtain ⟨y, hy, e⟩ := h1 j hj
    obtain ⟨r, hr, rfl⟩ := List.mem_map.1 hy
    exact ⟨r, hr, e⟩
  · obtain ⟨r, hr, e⟩ := h.sub _ hD
    exact hne r hr e
  · have hn := hord.nodup
    rw [List.map_append, List.nodup_append] at hn
    intro he
    exact hn.2.2 y.i (List.mem_map.2 ⟨y, List.mem_reverse.2 hy, rfl⟩) x.i (List.mem_map.2 ⟨x, List.mem_cons_self, rfl⟩) he

/-- the engine goes through one more -/
theorem Inv.more (hb : Base E fr ops cl c0 H0 w0 tm0 a0) {x : DOp} (h : Inv E fr ops cl c0 H0 w0 tm0 a0 cs0 c H w a cs ds cm D done (x :: rest) pend) (hx : isHeavy x = false) {H' : Heap} {pend' : List Pend} {v : AV} {sil : Bool}
    (hH : Hs E c H' w) (hext : Ext E c H w c H' w) (hsil : sil = true → H.next < H'.next) (hold : ∀ rs1 r rs2, done = rs1 ++ r :: rs2 → r.x.i ∉ D → Pending E fr.M fr.d fr.nt ops tm0 H0.next c H' pend' rs2 r) (hnew : Pending E fr.M fr.d fr.nt ops tm0 H0.next c H' pend' done ⟨x, v, H.next, sil⟩) :
    Inv E fr ops cl c0 H0 w0 tm0 a0 cs0 c H' w a cs ds cm D (⟨x, v, H.next, sil⟩ :: done) rest pend' := by
  obtain ⟨-, hne, hxD, -⟩ := h.apart hb
  have hcl : cl = ((⟨x, v, H.next, sil⟩ :: done : List Rec).map (·.x)).reverse ++ rest := by rw [h.split]; simp
  refine ⟨hcl, hH, h.ext.trans hext, h.size, h.ds, h.cs, fun i hi => ?_, h.closed, fun r hr hrD => ?_, fun t ht => h.old t fun r hr => ht r (List.mem_cons_of_mem _ hr), fun r hr hh => ?_, ?_, fun r hr hs => ?_, fun rs1 r rs2 he hrD => ?_⟩
  · obtain ⟨r, hr, e⟩ := h.sub i hi; exact ⟨r, List.mem_cons_of_mem _ hr, e⟩
  · rcases List.mem_cons.1 hr with rfl | hr
    · exact absurd hrD hxD
    · exact h.vals r hr hrD
  · rcases List.mem_cons.1 hr with rfl | hr
    · rw [hx] at hh; cases hh
    · exact h.heavy r hr hh
  · exact List.pairwise_cons.2 ⟨fun r hr hs => h.idn r hr hs, h.ids⟩
  · rcases List.mem_cons.1 hr with rfl | hr
    · exact hsil hs
    · exact Nat.lt_of_lt_of_le (h.idn r hr hs) hext.next
  · cases rs1 with
    | nil =>
      simp only [List.nil_append, List.cons.injEq] at he
      obtain ⟨rfl, rfl⟩ := he
      exact hnew
    | cons r1 rs1 =>
      simp only [List.cons_append, List.cons.injEq] at he
      obtain ⟨-, he⟩ := he
      exact hold rs1 r rs2 he hrD

theorem runD_cons (E : Env) (self : Cmd → CRes) (fr : Fr) (P : List (List D4)) (x : DP) (ps : List DP) (l : List AV) (tm : AH) (ds : List ADef) (cm : AMode) (H : Heap) (pend : List Pend) :
    runD E self fr P (x :: ps) l tm ds cm H pend = guardR x.p.gd l tm
      (match x.k with
        | .pure => match opA x.p.op E x.p.xs l tm H with
          | .val v _ => put x.p.st v tm fun tm' => runD E self fr P ps (v :: l) tm' ds cm H pend
          | .fail n => .fail n
          | _ => .fail 233
        | .light => match opA x.p.op E x.p.xs l tm H with
          | .val v _ => put x.p.st v tm fun tm' => runD E self fr P ps (v :: l) tm' ds cm H ({ i := x.i, p := x.p, l, tm, v, b := none } :: pend)
          | .fail n => .fail n
          | _ => .fail 233
        | .silent => match opA x.p.op E x.p.xs l tm H with
          | .val v H' => askPend E H' 0 pend fun pend => put x.p.st v tm fun tm' => runD E self fr P ps (v :: l) tm' ds cm H' ({ i := x.i, p := x.p, l, tm, v, b := some (H.next, hget E H' H.next) } :: pend)
          | .fail n => .fail n
          | _ => .fail 234
        | .heavy => special self fr (opA x.p.op E x.p.xs l tm H) (poisonP P tm) ds cm H fun v ds cm H => askPend E H x.anc pend fun pend => put x.p.st v tm fun tm => runD E self fr P ps (v :: l) tm ds cm H pend)
      (match x.k with
        | .heavy => askPend E H x.anc pend fun pend => put x.p.st undefA tm fun tm => runD E self fr P ps (undefA :: l) tm ds cm H pend
        | _ => put x.p.st undefA tm fun tm => runD E self fr P ps (undefA :: l) tm ds cm H pend) := by
  show guardR x.p.gd l tm (OK4.rec (motive := fun _ => Env → (Cmd → CRes) → Fr → List (List D4) → DP → GoD → List AV → AH → List ADef → AMode → Heap → List Pend → OR → Res) armP armL armS armH x.k E self fr P x (runD E self fr P ps) l tm ds cm H pend (opA x.p.op E x.p.xs l tm H))
      (OK4.rec (motive := fun _ => Env → DP → GoD → List AV → AH → List ADef → AMode → Heap → List Pend → Res) skipL skipL skipL skipH x.k E x (runD E self fr P ps) l tm ds cm H pend) = _
  congr 1
  · cases x.k
    · cases opA x.p.op E x.p.xs l tm H <;> rfl
    · cases opA x.p.op E x.p.xs l tm H <;> rfl
    · cases opA x.p.op E x.p.xs l tm H <;> rfl
    · rfl
  · cases x.k <;> rfl

/-- how the engine stands, behind those gone through -/
noncomputable def runR (E : Env) (self : Cmd → CRes) (fr : Fr) (ops : Array Oper) (tm0 : AH) (done : List Rec) (rest : List DOp) (ds : List ADef) (cm : AMode) (H : Heap) (pend : List Pend) : Res :=
  runD E self fr (dstP fr.M fr.d ops.toList) (dprep fr.M fr.d fr.nt ops.toList rest (recKs done)) (recVs done) (tmOf fr.M fr.d tm0 done) ds cm H pend

/-- one that is not heavy -/
theorem advance (hb : Base E fr ops cl c0 H0 w0 tm0 a0) {x : DOp} (h : Inv E fr ops cl c0 H0 w0 tm0 a0 cs0 c H w a cs ds cm D done (x :: rest) pend) (hx : isHeavy x = false) {Φ : Res → Prop} (hf : ∀ n, Φ (.fail n))
    (hk : ∀ H' pend' r, Ext E c H w c H' w → Inv E fr ops cl c0 H0 w0 tm0 a0 cs0 c H' w a cs ds cm D (r :: done) rest pend' → Φ (runR E self fr ops tm0 (r :: done) rest ds cm H' pend')) :
    Φ (runR E self fr ops tm0 done (x :: rest) ds cm H pend) := by
  have hxD := h.isDrest hb (x := x) List.mem_cons_self
  obtain ⟨hkd, -, -⟩ := kind_of hxD
  unfold runR
  show Φ (runD E self fr _ (⟨recP fr.M fr.d fr.nt ops x done, x.k, x.i, x.anc⟩ :: dprep fr.M fr.d fr.nt ops.toList rest (x.o.dst :: recKs done)) _ _ ds cm H pend)
  rw [runD_cons]
  have hH := h.hs
  have hself : ∀ q ∈ pend, q ∈ pend := fun q hq => hq
  have hst : ∀ (v : AV) (b : Nat) (sil : Bool) (H' : Heap) (pend' : List Pend), (put (recP fr.M fr.d fr.nt ops x done).st v (tmOf fr.M fr.d tm0 done) fun tm' => runD E self fr (dstP fr.M fr.d ops.toList) (dprep fr.M fr.d fr.nt ops.toList rest (x.o.dst :: recKs done)) (v :: recVs done) tm' ds cm H' pend') =
      runR E self fr ops tm0 (⟨x, v, b, sil⟩ :: done) rest ds cm H' pend' := by
    intro v b sil H' pend'
    rw [put_eq]
    rfl
  have hheavy : x.k ≠ .heavy := fun e => by
    unfold isHeavy at hx
    rw [e] at hx; cases hx
  rcases guard_cases (recP fr.M fr.d fr.nt ops x done).gd (recVs done) (tmOf fr.M fr.d tm0 done) with hy | hn | hfail
  · rw [hy]
    have hpure : ∀ (v : AV) (pend' : List Pend), (∀ q ∈ pend, q ∈ pend') → Pending E fr.M fr.d fr.nt ops tm0 H0.next c H pend' done ⟨x, v, H.next, false⟩ → Φ (runR E self fr ops tm0 (⟨x, v, H.next, false⟩ :: done) rest ds cm H pend') :=
      fun v pend' hp hnew => hk H pend' _ (.refl ..) (h.more hb hx hH (.refl ..) (fun e => by cases e) (fun rs1 r rs2 he hrD => pending_same (h.pen rs1 r rs2 he hrD) (fun _ => rfl) hp) hnew)
    cases hkx : x.k with
    | heavy => exact absurd hkx hheavy
    | pure =>
      rw [hkx] at hkd
      cases ho : opA x.o.op E (recP fr.M fr.d fr.nt ops x done).xs (recVs done) (tmOf fr.M fr.d tm0 done) H with
      | val v K =>
        have e : opA (recP fr.M fr.d fr.nt ops x done).op E (recP fr.M fr.d fr.nt ops x done).xs (recVs done) (tmOf fr.M fr.d tm0 done) H = .val v K := ho
        simp only [e]
        rw [hst v H.next false]
        exact hpure v pend (fun q hq => hq) (.inr ⟨hy, .inl ⟨hkd.symm, H, K, ho⟩⟩)
      | fail n => 
        have e : opA (recP fr.M fr.d fr.nt ops x done).op E (recP fr.M fr.d fr.nt ops x done).xs (recVs done) (tmOf fr.M fr.d tm0 done) H = .fail n := ho
        simp only [e]; exact hf _
      | _ => 
        have e : opA (recP fr.M fr.d fr.nt ops x done).op E (recP fr.M fr.d fr.nt ops x done).xs (recVs done) (tmOf fr.M fr.d tm0 done) H = _ := ho
        simp only [e]; exact hf _
    | light =>
      rw [hkx] at hkd
      cases ho : opA x.o.op E (recP fr.M fr.d fr.nt ops x done).xs (recVs done) (tmOf fr.M fr.d tm0 done) H with
      | val v K =>
        have e : opA (recP fr.M fr.d fr.nt ops x done).op E (recP fr.M fr.d fr.nt ops x done).xs (recVs done) (tmOf fr.M fr.d tm0 done) H = .val v K := ho
        simp only [e]
        rw [hst v H.next false]
        exact hpure v _ (fun q hq => List.mem_cons_of_mem _ hq) (.inr ⟨hy, .inr (.inl ⟨hkd.symm, ⟨K, ho⟩, List.mem_cons_self⟩)⟩)
      | fail n => 
        have e : opA (recP fr.M fr.d fr.nt ops x done).op E (recP fr.M fr.d fr.nt ops x done).xs (recVs done) (tmOf fr.M fr.d tm0 done) H = .fail n := ho
        simp only [e]; exact hf _
      | _ => 
        have e : opA (recP fr.M fr.d fr.nt ops x done).op E (recP fr.M fr.d fr.nt ops x done).xs (recVs done) (tmOf fr.M fr.d tm0 done) H = _ := ho
        simp only [e]; exact hf _
    | silent =>
      rw [hkx] at hkd
      cases ho : opA x.o.op E (recP fr.M fr.d fr.nt ops x done).xs (recVs done) (tmOf fr.M fr.d tm0 done) H with
      | val v K =>
        have e : opA (recP fr.M fr.d fr.nt ops x done).op E (recP fr.M fr.d fr.nt ops x done).xs (recVs done) (tmOf fr.M fr.d tm0 done) H = .val v K := ho
        simp only [e]
        obtain ⟨hlim, y, rfl⟩ := silent_lays hkd.symm v K ho
        refine askPend_ok hf pend _ fun pend' hp => ?_
        rw [hst v H.next true]
        have hlay := hH.lay hlim y
        have hext := Ext.lay hH hlim y
        refine hk _ _ _ hext (h.more hb hx hlay hext (fun _ => Nat.lt_succ_self _) (fun rs1 r rs2 he hrD => ?_) ?_)
        · refine pending_next (h.pen rs1 r rs2 he hrD) (fun _ => rfl) (Nat.le_succ _) fun q hq _ => ?_
          obtain ⟨q1, q2⟩ := hp q hq (bit_zero _)
          exact ⟨List.mem_cons_of_mem _ q1, q2⟩
        · exact .inr ⟨hy, .inr (.inr ⟨hkd.symm, rfl, H, newH E H y, rfl, ho, rfl, hH.rho_next (Nat.le_refl _), h.ext.next, Nat.lt_succ_self _, List.mem_cons_self⟩)⟩
      | fail n => 
        have e : opA (recP fr.M fr.d fr.nt ops x done).op E (recP fr.M fr.d fr.nt ops x done).xs (recVs done) (tmOf fr.M fr.d tm0 done) H = .fail n := ho
        simp only [e]; exact hf _
      | _ => 
        have e : opA (recP fr.M fr.d fr.nt ops x done).op E (recP fr.M fr.d fr.nt ops x done).xs (recVs done) (tmOf fr.M fr.d tm0 done) H = _ := ho
        simp only [e]; exact hf _
  · rw [hn]
    have hgo : Φ (put (recP fr.M fr.d fr.nt ops x done).st undefA (tmOf fr.M fr.d tm0 done) fun tm' => runD E self fr (dstP fr.M fr.d ops.toList) (dprep fr.M fr.d fr.nt ops.toList rest (x.o.dst :: recKs done)) (undefA :: recVs done) tm' ds cm H pend) := by
      rw [hst undefA H.next false]
      exact hk H pend _ (.refl ..) (h.more hb hx hH (.refl ..) (fun e => by cases e) (fun rs1 r rs2 he hrD => h.pen rs1 r rs2 he hrD) (.inl ⟨hn, rfl⟩))
    cases hkx : x.k with
    | heavy => exact absurd hkx hheavy
    | pure => exact hgo
    | light => exact hgo
    | silent => exact hgo
  · obtain ⟨n, e⟩ := hfail _ _
    rw [e]; exact hf n
end
end Go.Eng
/- Drawn regions: the machine's steps; the whole. -/
namespace Go.Eng

theorem nodup_map_inj {α β : Type} {f : α → β} : ∀ {l : List α}, (l.map f).Nodup → ∀ {a b : α}, a ∈ l → b ∈ l → f a = f b → a = b
  | [], _, _, _, h, _, _ => absurd h List.not_mem_nil
  | x :: l, hn, a, b, ha, hb, e => by
    obtain ⟨h1, h2⟩ := List.nodup_cons.1 hn
    rcases List.mem_cons.1 ha with rfl | ha'
    · rcases List.mem_cons.1 hb with rfl | hb'
      · rfl
      · exact absurd (List.mem_map.2 ⟨b, hb', e.symm⟩) h1
    · rcases List.mem_cons.1 hb with rfl | hb'
      · exact absurd (List.mem_map.2 ⟨a, ha', e⟩) h1
      · exact nodup_map_inj h2 ha' hb' e
theorem pairwise_split {α : Type} {R : α → α → Prop} {l1 l2 : List α} {x : α} (h : (l1 ++ x :: l2).Pairwise R) : (∀ y ∈ l1, R y x) ∧ (∀ y ∈ l2, R x y) := by
  rw [List.pairwise_append] at h
  exact ⟨fun y hy => h.2.2 y hy x List.mem_cons_self, fun y hy => (List.pairwise_cons.1 h.2.1).1 y hy⟩

section
variable {E : Env} {self : Cmd → CRes} {fr : Fr} {ops : Array Oper} {cl : List DOp} {c0 : Cx} {H0 : Heap} {w0 : World} {tm0 : AH} {a0 : Act} {cs0 : List Frame}
  {c : Cx} {H : Heap} {w : World} {a : Act} {cs : List Frame} {ds : List ADef} {cm : AMode} {D : List Nat} {done : List Rec} {rest : List DOp} {pend : List Pend} {b : Frame} {k : List Item}

theorem Inv.nodup (hb : Base E fr ops cl c0 H0 w0 tm0 a0) (h : Inv E fr ops cl c0 H0 w0 tm0 a0 cs0 c H w a cs ds cm D done rest pend) : (done.map fun r => r.x.i).Nodup := by
  have := (h.ordDone hb).nodup
  rw [List.map_map] at this
  exact this

/-- the machine has done what the engine has gone through -/
theorem Inv.did (hb : Base E fr ops cl c0 H0 w0 tm0 a0) (h : Inv E fr ops cl c0 H0 w0 tm0 a0 cs0 c H w a cs ds cm D done rest pend) {rs1 rs2 : List Rec} {r : Rec} (hd : done = rs1 ++ r :: rs2) (hrD : r.x.i ∉ D) (hanc : ∀ j, bit r.x.anc j = true → j ∈ D)
    {c' : Cx} {w' : World} {x : Value} (hH : Hs E c' H w') (hext : Ext E c0 H0 w0 c' H w') (hle : c.Le c') (hv : V c' r.v x) (hrho : ∀ r' ∈ done, r'.sil = true → r'.x.i ∉ r.x.i :: D → c'.rho r'.b = c.rho r'.b) :
    Inv E fr ops cl c0 H0 w0 tm0 a0 cs0 c' H w' (a.put r.x.o.dst x) cs ds cm (r.x.i :: D) done rest pend := by
  have hrm : r ∈ done := by rw [hd]; simp
  have hdf : (a.put r.x.o.dst x).defers = a.defers := by cases r.x.o.dst <;> rfl
  have hsz : (a.put r.x.o.dst x).tmps.size = a.tmps.size := by cases r.x.o.dst <;> simp [Act.put]
  have hother : ∀ t, r.x.o.dst ≠ some t → (a.put r.x.o.dst x).tmps.getD t undef = a.tmps.getD t undef := by
    intro t ht
    cases hdd : r.x.o.dst with
    | none => rfl
    | some u =>
      have hne : u ≠ t := fun e => ht (by rw [hdd, e])
      simp [Act.put, Array.getElem?_setIfInBounds_ne hne]
  refine ⟨h.split, hH, hext, hsz.trans h.size, by rw [hdf]; exact h.ds.mono hle, h.cs.mono hle, fun i hi => ?_, fun i hi j hj => ?_, fun r' hr' hrD' t ht hlt => ?_, fun t ht => ?_, fun r' hr' hh => List.mem_cons_of_mem _ (h.heavy r' hr' hh), h.ids, h.idn, fun q1 r' q2 he hrD' => ?_⟩
  · rcases List.mem_cons.1 hi with rfl | hi
    · exact ⟨r, hrm, rfl⟩
    · exact h.sub i hi
  · rcases List.mem_cons.1 hi with rfl | hi
    · refine List.mem_cons_of_mem _ (hanc j ?_)
      rw [(kind_of (h.isD hb hrm)).2.1]; exact hj
    · exact List.mem_cons_of_mem _ (h.closed i hi j hj)
  · rw [hsz] at hlt
    by_cases e : r'.x.i = r.x.i
    · have : r' = r := nodup_map_inj (h.nodup hb) hr' hrm e
      subst this
      rw [ht]
      simpa [Act.put, hlt] using hv
    · have hrD2 : r'.x.i ∈ D := by
        rcases List.mem_cons.1 hrD' with h2 | h2
        · exact absurd h2 e
        · exact h2
      have hne : r.x.o.dst ≠ some t := fun e2 => e ((hb.dr.apart r'.x r.x (h.isD hb hr') (h.isD hb hrm) t e2).2 ht)
      rw [hother t hne]
      exact (h.vals r' hr' hrD2 t ht hlt).mono hle
  · rw [hother t (ht r hrm List.mem_cons_self)]
    exact h.old t fun r' hr' hrD' => ht r' hr' (List.mem_cons_of_mem _ hrD')
  · have hrD2 : r'.x.i ∉ D := fun h2 => hrD' (List.mem_cons_of_mem _ h2)
    exact pending_same (h.pen q1 r' q2 he hrD2) (fun hs => hrho r' (by rw [he]; simp) hs hrD') fun q hq => hq

theorem not_defer {P : Program} {op : Op} (h : kindOf P op ≠ .heavy) : ∀ q, op ≠ .defer q := by
  rintro q rfl
  exact h rfl

/-- what stands on a record's older ones -/
theorem Inv.at (hb : Base E fr ops cl c0 H0 w0 tm0 a0) (h : Inv E fr ops cl c0 H0 w0 tm0 a0 cs0 c H w a cs ds cm D done rest pend) {rs1 rs2 : List Rec} {r : Rec} (hd : done = rs1 ++ r :: rs2) (hrD : r.x.i ∉ D) (hanc : ∀ j, bit r.x.anc j = true → j ∈ D) :
    ∀ y : Operand, (∀ t, y = .tmp t → bit r.x.reads t = true) → V c (ev (srcOf fr.M fr.d fr.nt (recKs rs2) y) (recVs rs2) (tmOf fr.M fr.d tm0 rs2)) (a.eval y) := by
  have hrm : r ∈ done := by rw [hd]; simp
  have hord := h.ordDone hb
  rw [hd, List.map_append, List.map_cons] at hord
  obtain ⟨h1, h2, -⟩ := hord.tail
  exact opnd hb h (rs1 := rs1 ++ [r]) (rs2 := rs2) (by rw [hd]; simp) (h.isD hb hrm) hrD (fun r' hr' => h2 r'.x (List.mem_map_of_mem hr')) (fun j hj => by
    obtain ⟨y, hy, e⟩ := h1 j hj
    obtain ⟨r', hr', rfl⟩ := List.mem_map.1 hy
    exact ⟨r', hr', e⟩) hanc

theorem guard_told {M d nt : Nat} {x : DOp} {rs : List Rec} {l : List AV} {tm : AH} (hx : IsD E.P ops (Region.before ops) x)
    (hop : ∀ y : Operand, (∀ t, y = .tmp t → bit x.reads t = true) → V c (ev (srcOf M d nt (recKs rs) y) l tm) (a.eval y)) :
    (GYes (recP M d nt ops x rs).gd l tm → Region.wanted x.o (yielded ops a.tmps) = true) ∧ (GNo (recP M d nt ops x rs).gd l tm → Region.wanted x.o (yielded ops a.tmps) = false) := by
  have hsrc : ∀ t, t ∈ gdOf ops.toList x.o → V c (ev (srcOf M d nt (recKs rs) (.tmp t)) l tm) (a.eval (.tmp t)) := fun t ht => hop (.tmp t) fun u hu => by
    cases hu; exact (reads_of hx).2 t ht
  let s0 : St := ⟨.e, [], .ret, ⟨0, .e, [], 0, []⟩⟩
  have h1 := guard_spec' (Φ := fun q => (q = Res.one .normal s0 → Region.wanted x.o (yielded ops a.tmps) = true) ∧ (q = Res.one .ret s0 → Region.wanted x.o (yielded ops a.tmps) = false)) (c := c) (M := M) (d := d) (nt := nt) (ks := recKs rs) (l := l) (tm := tm) (a := a) (o := x.o) (ops := ops)
    (fun n => ⟨fun e => (by cases e), fun e => (by cases e)⟩) hsrc (yes := .one .normal s0) (no := .one .ret s0) (fun hw => ⟨fun _ => hw, fun e => (by cases e)⟩) (fun hw => ⟨fun e => (by cases e), fun _ => hw⟩)
  exact ⟨fun hy => h1.1 (hy _ _), fun hn => h1.2 (hn _ _)⟩

/-- the machine comes to an operation that the engine has gone through -/
theorem exec_done (hX : ExtsOK E) (hb : Base E fr ops cl c0 H0 w0 tm0 a0) (h : Inv E fr ops cl c0 H0 w0 tm0 a0 cs0 c H w a cs ds cm D done rest pend) {rs1 rs2 : List Rec} {r : Rec} (hd : done = rs1 ++ r :: rs2) (hrD : r.x.i ∉ D) (hanc : ∀ j, bit r.x.anc j = true → j ∈ D) (L : List Nat) :
    ∃ c' w' a', Steps E.P (lone (b.atR a (.inRegion ops (r.x.i :: L) :: k)) cs w) (lone (b.atR a' (.inRegion ops L :: k)) cs w') ∧ Inv E fr ops cl c0 H0 w0 tm0 a0 cs0 c' H w' a' cs ds cm (r.x.i :: D) done rest pend := by
  have hrm : r ∈ done := by rw [hd]; simp
  have hx := h.isD hb hrm
  obtain ⟨hk, -, ho⟩ := kind_of hx
  have hop := h.at hb hd hrD hanc
  have hsrc : ∀ y ∈ r.x.o.op.operands.toList, V c (ev (srcOf fr.M fr.d fr.nt (recKs rs2) y) (recVs rs2) (tmOf fr.M fr.d tm0 rs2)) (a.eval y) := fun y hy => hop y fun t e => by
    subst e; exact (reads_of hx).1 t hy
  obtain ⟨gy, gn⟩ := guard_told (E := E) hx hop
  have hE : FactsOK E c := hb.facts.mono h.ext.le
  rcases h.pen rs1 r rs2 hd hrD with ⟨hno, hv⟩ | ⟨hyes, hpend⟩
  · have hw := gn hno
    have hskip := stepR_op_skip (P := E.P) (b := b) (a := a) (k := k) (cs := cs) (w := w) (ops := ops) (i := r.x.i) (rest := L) (by rw [ho]; simpa using hw)
    rw [ho] at hskip
    exact ⟨c, w, _, .one hskip, h.did hb hd hrD hanc h.hs h.ext (.refl c) (by rw [hv]; exact V.undef c) fun _ _ _ _ => rfl⟩
  · have hw := gy hyes
    have hstep := stepGR_op (P := E.P) (b := b) (k := k) (cs := cs) (w := w) (rest := L) ho hw
    have hlight : (kindOf E.P r.x.o.op = .light ∨ kindOf E.P r.x.o.op = .pure) → (∃ K, opA r.x.o.op E (recP fr.M fr.d fr.nt ops r.x rs2).xs (recVs rs2) (tmOf fr.M fr.d tm0 rs2) H = .val r.v K) →
        ∃ c' w' a', Steps E.P (lone (b.atR a (.inRegion ops (r.x.i :: L) :: k)) cs w) (lone (b.atR a' (.inRegion ops L :: k)) cs w') ∧ Inv E fr ops cl c0 H0 w0 tm0 a0 cs0 c' H w' a' cs ds cm (r.x.i :: D) done rest pend := by
      rintro hkk ⟨K, hval⟩
      have hnd : kindOf E.P r.x.o.op ≠ .heavy := by rcases hkk with e | e <;> rw [e] <;> simp
      have hsem := Oper.semAt_eq b.roundOf a.eval r.x.o (not_defer hnd)
      have hN := opA_ok (E := E) (cs := b.atR a (.inRegion ops (r.x.i :: L) :: k) :: cs) hE hX h.hs (o := r.x.o) hsrc
      have hval' : opA r.x.o.op E (r.x.o.op.operands.toList.map (srcOf fr.M fr.d fr.nt (recKs rs2))) (recVs rs2) (tmOf fr.M fr.d tm0 rs2) H = .val r.v K := hval
      rw [hval'] at hN
      obtain ⟨x, w', c', hg, hs, hv⟩ := hN
      have hal : Alike E H K := still_opA hkk r.v K hval
      have hs' := hs.1.alike hal
      have he' := hs.2.alike hal
      exact ⟨c', w', _, hg.steps hstep (by rw [hsem]) ho, h.did hb hd hrD hanc hs' (h.ext.trans he') he'.le hv fun r' hr' hs2 _ => he'.rhoOld _ (h.idn r' hr' hs2)⟩
    rcases hpend with ⟨hkk, H1, K, hval⟩ | ⟨hkk, hval, -⟩ | ⟨hkk, hsil, H1, K, hb1, hval, hget1, hrho, hn0, hlt, -⟩
    · refine hlight (.inr hkk) ?_
      exact ind_opA (E := E) (H := H1) (H' := H) hkk r.v K hval
    · exact hlight (.inl hkk) hval
    · have hnd : kindOf E.P r.x.o.op ≠ .heavy := by rw [hkk]; simp
      have hsem := Oper.semAt_eq b.roundOf a.eval r.x.o (not_defer hnd)
      obtain ⟨hl1, y, hK, rr, hrun, ⟨obj, xv, hrr, hreal, hbk, hvv⟩⟩ := silent_ok (E := E) h.hs (o := r.x.o) hkk hsrc hval
      subst hK
      rw [hget_newH h.hs.limD H1 hl1 hl1 y, if_pos rfl] at hget1
      rw [hrr] at hrun
      have hle : c.Le (c.at H1.next w.heap.size 0) := Cx.at_le hrho
      refine ⟨c.at H1.next w.heap.size 0, World.push w obj, _, Gives.steps (x := xv) (.inl hrun) hstep (by rw [hsem]) ho, h.did hb hd hrD hanc (h.hs.adopt hlt hrho hget1 hbk) (h.ext.adopt hrho hn0) hle (hvv _ hle (at_self _ _ _ _)) fun r' hr' hs2 hrD' => ?_⟩
      have hne : r'.b ≠ H1.next := by
        rw [hb1]
        have hids := h.ids
        rw [hd] at hids
        obtain ⟨p1, p2⟩ := pairwise_split hids
        rw [hd] at hr'
        rcases List.mem_append.1 hr' with hr' | hr'
        · have := p1 r' hr' hsil; omega
        · rcases List.mem_cons.1 hr' with rfl | hr'
          · exact absurd List.mem_cons_self hrD'
          · have := p2 r' hr' hs2; omega
      simp [Cx.at, hne]
end
end Go.Eng
/- Drawn regions: heavy operations; the whole. -/
namespace Go.Eng

theorem poison_get {q : List D4} : ∀ {l : List (List D4)} {tm : AH}, (∀ p ∈ l, p.length = q.length) → tget q (poisonP l tm) = if q ∈ l then .val .bad else tget q tm
  | [], tm, _ => by simp [poisonP]
  | p :: l, tm, h => by
    have ih := poison_get (q := q) (l := l) (tm := tm) fun p hp => h p (List.mem_cons_of_mem _ hp)
    show tget q (tsetP p (poisonP l tm) (.val .bad)) = _
    rw [tget_tsetP _ _ _ _ (h p List.mem_cons_self), ih]
    by_cases e : q = p
    · subst e; simp
    · simp [e]
theorem dstP_mem {M d : Nat} : ∀ {l : List Oper} {p : List D4}, p ∈ dstP M d l → ∃ t, bit M t = true ∧ p = digits d t
  | [], p, h => absurd h List.not_mem_nil
  | o :: l, p, h => by
    have hrec : p ∈ dstP M d l → ∃ t, bit M t = true ∧ p = digits d t := dstP_mem
    unfold dstP at h
    cases hd : o.dst with
    | none => rw [hd] at h; exact hrec h
    | some t =>
      rw [hd] at h
      unfold stOf at h
      simp only at h
      split at h
      · rename_i q hq
        split at hq
        · rename_i hb
          cases hq
          rcases List.mem_cons.1 h with rfl | h
          · exact ⟨t, hb, rfl⟩
          · exact hrec h
        · cases hq
      · exact hrec h
theorem dstP_of {M d : Nat} {t : Nat} (hb : bit M t = true) : ∀ {l : List Oper} {o : Oper}, o ∈ l → o.dst = some t → digits d t ∈ dstP M d l
  | [], o, h, _ => absurd h List.not_mem_nil
  | q :: l, o, h, hd => by
    rcases List.mem_cons.1 h with rfl | h
    · unfold dstP
      rw [hd]
      have e : stOf M d (some t) = some (digits d t) := by unfold stOf; simp only [hb]
      rw [e]
      exact List.mem_cons_self
    · have ih := dstP_of (d := d) hb h hd
      unfold dstP
      split
      · exact List.mem_cons_of_mem _ ih
      · exact ih

section
variable {E : Env} {self : Cmd → CRes} {fr : Fr} {ops : Array Oper} {cl : List DOp} {c0 : Cx} {H0 : Heap} {w0 : World} {tm0 : AH} {a0 : Act} {cs0 : List Frame}
  {c : Cx} {H : Heap} {w : World} {a : Act} {cs : List Frame} {ds : List ADef} {cm : AMode} {D : List Nat} {done : List Rec} {rest : List DOp} {pend : List Pend} {b : Frame} {k : List Item}

/-- in the middle of a region nothing is known of what it writes -/
theorem Inv.poison (hb : Base E fr ops cl c0 H0 w0 tm0 a0) (h : Inv E fr ops cl c0 H0 w0 tm0 a0 cs0 c H w a cs ds cm D done rest pend) :
    StOK E c fr cs0 ⟨poisonP (dstP fr.M fr.d ops.toList) (tmOf fr.M fr.d tm0 done), ds, cm, H⟩ a w cs := by
  refine ⟨h.hs, fun t ht => ?_, by rw [h.size]; exact hb.sz, h.ds, h.cs⟩
  obtain ⟨h1, h2, h3⟩ := hb.tm t ht
  refine ⟨h1, by rw [h.size]; exact h2, ?_⟩
  have hlen : ∀ p ∈ dstP fr.M fr.d ops.toList, p.length = (digits fr.d t).length := fun p hp => by
    obtain ⟨u, -, rfl⟩ := dstP_mem hp
    rw [digits_length, digits_length]
  rw [poison_get hlen]
  split
  · exact V.bad _ _
  · rename_i hn
    have hno : ∀ r ∈ done, r.x.o.dst ≠ some t := fun r hr hd => hn (dstP_of ht (by
      obtain ⟨o, h1, h2⟩ := h.isD hb hr
      have e : r.x.o = o := by rw [h2]; rfl
      rw [e]
      rw [← Array.getElem?_toList] at h1
      exact List.mem_of_getElem? h1) hd)
    rw [tmOf_old hb.tm ht hno, h.old t fun r hr _ => hno r hr]
    exact h3.mono h.ext.le

/-- at the end all is known -/
theorem Inv.final (hb : Base E fr ops cl c0 H0 w0 tm0 a0) (h : Inv E fr ops cl c0 H0 w0 tm0 a0 cs0 c H w a cs ds cm D done rest pend) (hall : ∀ r ∈ done, r.x.i ∈ D) :
    StOK E c fr cs0 ⟨tmOf fr.M fr.d tm0 done, ds, cm, H⟩ a w cs := by
  refine ⟨h.hs, fun t ht => ?_, by rw [h.size]; exact hb.sz, h.ds, h.cs⟩
  obtain ⟨h1, h2, h3⟩ := hb.tm t ht
  have hlt : t < a.tmps.size := by rw [h.size]; exact h2
  refine ⟨h1, hlt, ?_⟩
  by_cases hex : ∃ r ∈ done, r.x.o.dst = some t
  · obtain ⟨r, hr, hd⟩ := hex
    obtain ⟨rs1, rs2, he⟩ := List.append_of_mem hr
    have hno : ∀ r' ∈ rs1, r'.x.o.dst ≠ some t := fun r' hr' hd' => by
      have hrm' : r' ∈ done := by rw [he]; simp [hr']
      have e := (hb.dr.apart r'.x r.x (h.isD hb hrm') (h.isD hb hr) t hd).2 hd'
      have hn := h.nodup hb
      rw [he, List.map_append, List.map_cons, List.nodup_append] at hn
      exact hn.2.2 _ (List.mem_map.2 ⟨r', hr', rfl⟩) _ List.mem_cons_self e
    have e := tmOf_new (tm0 := tm0) ht h1 (fun u hu => (hb.tm u hu).1) (rs2 := rs2) hno hd
    rw [he, e]
    exact h.vals r hr (hall r hr) t hd hlt
  · have hno : ∀ r ∈ done, r.x.o.dst ≠ some t := fun r hr hd => hex ⟨r, hr, hd⟩
    rw [tmOf_old hb.tm ht hno, h.old t fun r hr _ => hno r hr]
    exact h3.mono h.ext.le

/-- behind a heavy operation -/
theorem Inv.heavyStep (hb : Base E fr ops cl c0 H0 w0 tm0 a0) {x : DOp} (h : Inv E fr ops cl c0 H0 w0 tm0 a0 cs0 c H w a cs ds cm D done (x :: rest) pend) (hanc : ∀ j, bit x.anc j = true → j ∈ D)
    {c' : Cx} {H' : Heap} {w' : World} {a' : Act} {cs' : List Frame} {ds' : List ADef} {cm' : AMode} {v : AV} {y : Value} {pend' : List Pend}
    (hH : Hs E c' H' w') (hext : Ext E c H w c' H' w') (hds : DefsOK E c' ds' a'.defers) (hcs : CallersOK c' fr.deferred cm' cs0 cs') (hat : a'.tmps = a.tmps) (hv : V c' v y)
    (hp : ∀ q ∈ pend, bit x.anc q.i = false → q ∈ pend' ∧ Asked E H' q) :
    Inv E fr ops cl c0 H0 w0 tm0 a0 cs0 c' H' w' (a'.put x.o.dst y) cs' ds' cm' (x.i :: D) (⟨x, v, H'.next, false⟩ :: done) rest pend' := by
  obtain ⟨-, hne, hxD, -⟩ := h.apart hb
  have hx := h.isDrest hb (x := x) List.mem_cons_self
  have hdf : (a'.put x.o.dst y).defers = a'.defers := by cases x.o.dst <;> rfl
  have hsz : (a'.put x.o.dst y).tmps.size = a.tmps.size := by rw [← hat]; cases x.o.dst <;> simp [Act.put]
  have hother : ∀ t, x.o.dst ≠ some t → (a'.put x.o.dst y).tmps.getD t undef = a.tmps.getD t undef := by
    intro t ht
    rw [← hat]
    cases hdd : x.o.dst with
    | none => rfl
    | some u =>
      have hne : u ≠ t := fun e => ht (by rw [hdd, e])
      simp [Act.put, Array.getElem?_setIfInBounds_ne hne]
  refine ⟨by rw [h.split]; simp, hH, h.ext.trans hext, hsz.trans h.size, by rw [hdf]; exact hds, hcs, fun i hi => ?_, fun i hi j hj => ?_, fun r hr hrD t ht hlt => ?_, fun t ht => ?_, fun r hr hh => ?_, ?_, fun r hr hs => ?_, fun rs1 r rs2 he hrD => ?_⟩
  · rcases List.mem_cons.1 hi with rfl | hi
    · exact ⟨_, List.mem_cons_self, rfl⟩
    · obtain ⟨r, hr, e⟩ := h.sub i hi; exact ⟨r, List.mem_cons_of_mem _ hr, e⟩
  · rcases List.mem_cons.1 hi with rfl | hi
    · refine List.mem_cons_of_mem _ (hanc j ?_)
      rw [(kind_of hx).2.1]; exact hj
    · exact List.mem_cons_of_mem _ (h.closed i hi j hj)
  · rw [hsz] at hlt
    rcases List.mem_cons.1 hr with rfl | hr
    · have ht' : x.o.dst = some t := ht
      have hlt' : t < a'.tmps.size := by rw [hat]; exact hlt
      rw [ht']
      show V c' v _
      simpa [Act.put, hlt'] using hv
    · have hrD2 : r.x.i ∈ D := by
        rcases List.mem_cons.1 hrD with h2 | h2
        · exact absurd h2 (hne r hr)
        · exact h2
      have hnd : x.o.dst ≠ some t := fun e2 => hne r hr ((hb.dr.apart r.x x (h.isD hb hr) hx t e2).2 ht)
      rw [hother t hnd]
      exact (h.vals r hr hrD2 t ht hlt).mono hext.le
  · rw [hother t (ht _ List.mem_cons_self List.mem_cons_self)]
    exact h.old t fun r hr hrD => ht r (List.mem_cons_of_mem _ hr) (List.mem_cons_of_mem _ hrD)
  · rcases List.mem_cons.1 hr with rfl | hr
    · exact List.mem_cons_self
    · exact List.mem_cons_of_mem _ (h.heavy r hr hh)
  · exact List.pairwise_cons.2 ⟨fun r hr hs => Nat.lt_of_lt_of_le (h.idn r hr hs) hext.next, h.ids⟩
  · rcases List.mem_cons.1 hr with rfl | hr
    · cases hs
    · exact Nat.lt_of_lt_of_le (h.idn r hr hs) hext.next
  · cases rs1 with
    | nil =>
      simp only [List.nil_append, List.cons.injEq] at he
      obtain ⟨rfl, rfl⟩ := he
      exact absurd List.mem_cons_self hrD
    | cons r1 rs1 =>
      simp only [List.cons_append, List.cons.injEq] at he
      obtain ⟨-, he⟩ := he
      have hrm : r ∈ done := by rw [he]; simp
      have hrD2 : r.x.i ∉ D := fun h2 => hrD (List.mem_cons_of_mem _ h2)
      refine pending_next (h.pen rs1 r rs2 he hrD2) (fun hs => hext.rhoOld _ (h.idn r hrm hs)) hext.next fun q hq hqi => hp q hq ?_
      cases hbit : bit x.anc q.i with
      | false => rfl
      | true => exact absurd (hanc _ hbit) (by rw [hqi]; exact hrD2)

theorem anc_in (hb : Base E fr ops cl c0 H0 w0 tm0 a0) (h : Inv E fr ops cl c0 H0 w0 tm0 a0 cs0 c H w a cs ds cm D done rest pend) {x : DOp} (hx : IsD E.P ops (Region.before ops) x) (hed : ∀ e ∈ x.o.after, Region.binds .any e = true → e.on ∈ D) : ∀ j, bit x.anc j = true → j ∈ D := by
  intro j hj
  obtain ⟨e, he, hbd, h2⟩ := hb.dr.anc x hx j hj
  have hon := hed e (by simpa using he) hbd
  rcases h2 with rfl | h2
  · exact hon
  · exact h.closed _ hon _ h2

theorem draw_main (hX : ExtsOK E) (hself : SelfOK E self) (hb : Base E fr ops cl c0 H0 w0 tm0 a0) (hfr0 : FrOK E c0 fr b) : ∀ (L : List Nat) (n : Nat) (rest : List DOp), rest.length = n → ∀ (c : Cx) (H : Heap) (w : World) (a : Act) (cs : List Frame) (ds : List ADef) (cm : AMode) (D : List Nat) (done : List Rec) (pend : List Pend),
    Inv E fr ops cl c0 H0 w0 tm0 a0 cs0 c H w a cs ds cm D done rest pend → Sched ops D L →
    ROf (One E c0 H0 w0 fr b cs0 (lone (b.atR a (.inRegion ops L :: k)) cs w) k) (runR E self fr ops tm0 done rest ds cm H pend)
  | L, n, rest, hn, c, H, w, a, cs, ds, cm, D, done, pend, h, hs => by
    have hE : FactsOK E c := hb.facts.mono h.ext.le
    have hfr : FrOK E c fr b := hfr0.mono h.ext.le
    -- the engine goes on as far as it may
    by_cases hadv : ∃ x rest', rest = x :: rest' ∧ isHeavy x = false
    · obtain ⟨x, rest', hrest, hx⟩ := hadv
      subst hrest
      refine advance hb h hx (Φ := fun q => ROf _ q) (fun n => trivial) fun H' pend' r hext hinv => ?_
      exact draw_main hX hself hb hfr0 L rest'.length rest' rfl c H' w a cs ds cm D (r :: done) pend' hinv hs
    · cases hs with
      | nil hall =>
        have hrest : rest = [] := by
          cases hr : rest with
          | nil => rfl
          | cons x rest' =>
            subst hr
            have hxi := (h.apart hb).2.2.1
            obtain ⟨o, ho, -⟩ := h.isDrest hb (x := x) List.mem_cons_self
            exact absurd (hall _ (Array.getElem?_eq_some_iff.1 ho).1) hxi
        subst hrest
        show One E c0 H0 w0 fr b cs0 _ k .normal ⟨tmOf fr.M fr.d tm0 done, ds, cm, H⟩
        refine ⟨a, w, cs, c, h.ext, h.final hb fun r hr => ?_, .one stepR_region_end⟩
        obtain ⟨o, ho, -⟩ := h.isD hb hr
        exact hall _ (Array.getElem?_eq_some_iff.1 ho).1
      | @cons _ i o L' hiD hio hed hs' =>
        obtain ⟨z, hzc, hzi⟩ := hb.dr.covers i (Array.getElem?_eq_some_iff.1 hio).1
        subst hzi
        have hzD := hb.dr.isD z hzc
        have hzo : z.o = o := by
          have := (kind_of hzD).2.2
          rw [hio] at this
          exact (Option.some.inj this).symm
        subst hzo
        have hanc := anc_in hb h hzD hed
        rw [h.split] at hzc
        rcases List.mem_append.1 hzc with hzc | hzc
        · obtain ⟨r, hr, hrz⟩ := List.mem_map.1 (List.mem_reverse.1 hzc)
          subst hrz
          obtain ⟨rs1, rs2, hd⟩ := List.append_of_mem hr
          obtain ⟨c', w', a', hst, hinv⟩ := exec_done (b := b) (k := k) hX hb h hd hiD hanc L'
          exact (draw_main hX hself hb hfr0 L' rest.length rest rfl c' H w' a' cs ds cm _ done pend hinv hs').mono fun _ _ ho => ho.steps hst
        · cases hr : rest with
          | nil => rw [hr] at hzc; cases hzc
          | cons x rest' =>
            subst hr
            have hxh : isHeavy x = true := by
              cases hh : isHeavy x with
              | true => rfl
              | false => exact absurd ⟨x, rest', rfl, hh⟩ hadv
            obtain ⟨-, hne, hxD, -⟩ := h.apart hb
            rcases List.mem_cons.1 hzc with hzx | hzx
            · subst hzx
              have hord := h.apart hb
              have hop : ∀ y : Operand, (∀ t, y = .tmp t → bit z.reads t = true) → V c (ev (srcOf fr.M fr.d fr.nt (recKs done) y) (recVs done) (tmOf fr.M fr.d tm0 done)) (a.eval y) :=
                opnd hb h (rs1 := []) (rs2 := done) rfl hzD hiD hne hord.1 hanc
              have hsrc : ∀ y ∈ z.o.op.operands.toList, V c (ev (srcOf fr.M fr.d fr.nt (recKs done) y) (recVs done) (tmOf fr.M fr.d tm0 done)) (a.eval y) := fun y hy => hop y fun t e => by
                subst e; exact (reads_of hzD).1 t hy
              have hgsrc : ∀ t, t ∈ gdOf ops.toList z.o → V c (ev (srcOf fr.M fr.d fr.nt (recKs done) (.tmp t)) (recVs done) (tmOf fr.M fr.d tm0 done)) (a.eval (.tmp t)) := fun t ht => hop (.tmp t) fun u hu => by
                cases hu; exact (reads_of hzD).2 t ht
              have hk : z.k = .heavy := by
                unfold isHeavy at hxh
                split at hxh
                · assumption
                · cases hxh
              unfold runR
              show ROf _ (runD E self fr _ (⟨recP fr.M fr.d fr.nt ops z done, z.k, z.i, z.anc⟩ :: dprep fr.M fr.d fr.nt ops.toList rest' (z.o.dst :: recKs done)) _ _ ds cm H pend)
              rw [runD_cons, hk]
              have hnext : ∀ (v : AV) (ds' : List ADef) (cm' : AMode) (H' : Heap) (y : Value) (a' : Act) (w' : World) (cs' : List Frame) (c' : Cx), Ext E c H w c' H' w' → Hs E c' H' w' → DefsOK E c' ds' a'.defers → CallersOK c' fr.deferred cm' cs0 cs' → V c' v y → a'.tmps = a.tmps →
                  Steps E.P (lone (b.atR a (.inRegion ops (z.i :: L') :: k)) cs w) (lone (b.atR (a'.put z.o.dst y) (.inRegion ops L' :: k)) cs' w') →
                  ROf (One E c0 H0 w0 fr b cs0 (lone (b.atR a (.inRegion ops (z.i :: L') :: k)) cs w) k) (askPend E H' z.anc pend fun pend => put (recP fr.M fr.d fr.nt ops z done).st v (tmOf fr.M fr.d tm0 done) fun tm => runD E self fr (dstP fr.M fr.d ops.toList) (dprep fr.M fr.d fr.nt ops.toList rest' (z.o.dst :: recKs done)) (v :: recVs done) tm ds' cm' H' pend) := by
                intro v ds' cm' H' y a' w' cs' c' hext hHs hds hcs hv hat hst
                refine askPend_ok (Φ := fun q => ROf _ q) (fun n => trivial) pend _ fun pend' hp => ?_
                rw [put_eq]
                have hinv := h.heavyStep hb hanc hHs hext hds hcs hat hv hp
                exact (draw_main hX hself hb hfr0 L' rest'.length rest' rfl c' H' w' _ cs' ds' cm' _ _ pend' hinv hs').mono fun _ _ ho => ho.steps hst
              refine guard_spec' (Φ := fun q => ROf _ q) (fun n => trivial) hgsrc (fun hw => ?_) fun hw => ?_
              · have hN := opA_ok (E := E) (cs := b.atR a (.inRegion ops (z.i :: L') :: k) :: cs) hE hX h.hs (o := z.o) hsrc
                have hpo := h.poison hb
                have hpan : ∀ l s, One E c H w fr b cs0 (lone (b.atR a (.inRegion ops (z.i :: L') :: k)) cs w) k (.pan l) s → One E c0 H0 w0 fr b cs0 (lone (b.atR a (.inRegion ops (z.i :: L') :: k)) cs w) k (.pan l) s := fun l s ho => ho.ext h.ext
                by_cases hdef : ∃ q, z.o.op = .defer q
                · obtain ⟨q, hq⟩ := hdef
                  cases hrd : fr.round with
                  | some lp =>
                    have e : opA (recP fr.M fr.d fr.nt ops z done).op E (recP fr.M fr.d fr.nt ops z done).xs (recVs done) (tmOf fr.M fr.d tm0 done) H = hDeferC E q.callee (recP fr.M fr.d fr.nt ops z done).xs (recVs done) (tmOf fr.M fr.d tm0 done) := by
                      show opA z.o.op E _ _ _ H = _
                      rw [hq]; rfl
                    show ROf _ (special self fr (opA (recP fr.M fr.d fr.nt ops z done).op E (recP fr.M fr.d fr.nt ops z done).xs (recVs done) (tmOf fr.M fr.d tm0 done) H) _ ds cm H _)
                    rw [e]
                    exact special_round_defer hrd
                  | none =>
                    have hro : b.roundOf = none := by have := hfr.round; rw [hrd] at this; exact this
                    exact special_core hself hE hfr hpo hio hw (by rw [hro]; rfl) hN (fun v ds' cm' H' y a' w' cs' c' q1 q2 q3 q4 q5 => hnext v ds' cm' H' y a' w' cs' c' q1 q2.hs q2.ds q2.cs q3 q4 q5) hpan
                · exact special_core hself hE hfr hpo hio hw (Oper.semAt_eq _ _ _ fun q hq => hdef ⟨q, hq⟩) hN (fun v ds' cm' H' y a' w' cs' c' q1 q2 q3 q4 q5 => hnext v ds' cm' H' y a' w' cs' c' q1 q2.hs q2.ds q2.cs q3 q4 q5) hpan
              · have hskip := stepR_op_skip (P := E.P) (b := b) (a := a) (k := k) (cs := cs) (w := w) (ops := ops) (i := z.i) (rest := L') (by rw [hio]; simpa using hw)
                rw [hio] at hskip
                exact hnext undefA ds cm H undef a w cs c (.refl ..) h.hs h.ds h.cs (V.undef c) rfl (.one hskip)
            · exfalso
              have hbit := hb.dr.behind ((done.map (·.x)).reverse) x rest' h.split hxh z hzx
              exact hxD (hanc _ hbit)
  termination_by L n => (L.length, n)
  decreasing_by all_goals (subst_vars; simp_wf; simp [Prod.lex_def])

/-- drawn regions -/
theorem drawOK (hX : ExtsOK E) (hself : SelfOK E self) (fr : Fr) (b : Frame) (cs0 : List Frame) : DrawOK E self fr b cs0 := by
  intro id ops ps hps k s a w cs c hE hfr hst
  obtain ⟨cl, rfl, hdr⟩ := drawn_spec hps
  obtain ⟨tm, ds, cm, H⟩ := s
  have hdrew : Stp E c H w c H { w with drawn := w.drawn + 1 } := hst.hs.world rfl rfl rfl rfl
  have hst' := hst.mono hdrew.2.le hdrew.1
  have hb : Base E fr ops cl c H { w with drawn := w.drawn + 1 } tm a := ⟨hdr, hst'.tm, hst'.sz, hE⟩
  have hinv : Inv E fr ops cl c H { w with drawn := w.drawn + 1 } tm a cs0 c H { w with drawn := w.drawn + 1 } a cs ds cm [] [] cl [] :=
    ⟨by simp, hdrew.1, .refl .., rfl, hst'.ds, hst'.cs, fun i hi => absurd hi List.not_mem_nil, fun i hi => absurd hi List.not_mem_nil, fun r hr => absurd hr List.not_mem_nil, fun t _ => rfl, fun r hr => absurd hr List.not_mem_nil, List.Pairwise.nil,
     fun r hr => absurd hr List.not_mem_nil, fun rs1 r rs2 he => by simp at he⟩
  have hstep := stepR_region_draw (P := E.P) (b := b) (a := a) (k := k) (cs := cs) (w := w) (ops := ops) (id := id)
  have := draw_main (b := b) (k := k) (cs0 := cs0) hX hself hb hfr (Region.schedule (E.P.follows .mixedOrders) ops (w.tape w.drawn (.order b.fn id))) cl.length cl rfl c H _ a cs ds cm [] [] [] hinv (sched_schedule hdr.orders _ _)
  exact this.mono fun _ _ ho => (ho.steps (.one hstep)).ext hdrew.2
end
end Go.Eng
/- The engine's run of a call is the machine's. -/
namespace Go.Eng

theorem run_sound {E : Env} (hX : ExtsOK E) (L G n : Nat) : SelfOK E (run E L G n) := run_ok hX (fun _ hs => drawOK hX hs) L G n

/-- a context in which nothing stands for anything yet -/
def Cx.none (w : World) (sig : Nat → Value) : Cx := ⟨w.heap.size, fun _ => Option.none, sig, fun _ => Option.none, fun _ => Option.none⟩
theorem Hs.start {E : Env} (hl : E.lim = 4 ^ E.D) (w : World) {sig : Nat → Value} (hs : ∀ i, (sig i).oneCell' = true) : Hs E (Cx.none w sig) H0 w := by
  have hg : ∀ b, hget E H0 b = .e := fun b => tget_e _
  exact ⟨hl, Nat.le_refl _, hs, Nat.zero_le _, fun b _ hr => (by rw [hg] at hr; cases hr), fun b x h => (by cases h), fun b B k h => absurd h (Nat.not_lt_zero _), fun b b' B k k' h => absurd h (Nat.not_lt_zero _), fun b B k h => (by cases h), fun j lo hi h => (by cases h), fun j g h => (by cases h), fun j g h => (by cases h), fun j g b sz h => (by cases h)⟩

/-- what an outcome says of a call: the value true, and memory as it was -/
def TrueP (w : World) : Ending → World → Prop := fun e w' => e = .returned (.bool true) ∧ w.heap.size ≤ w'.heap.size ∧ (∀ B, B < w.heap.size → w'.heap[B]? = w.heap[B]?) ∧ w'.tape = w.tape ∧ w'.os = w.os ∧ w'.output = w.output

theorem calls_true {E : Env} (hX : ExtsOK E) (hl : E.lim = 4 ^ E.D) {w : World} {sig : Nat → Value} (hs : ∀ i, (sig i).oneCell' = true) (hF : FactsOK E (Cx.none w sig)) {L G n f : Nat} {args : List AV} {ys : Array Value} (hk : callKd E f = .body) (hargs : SL (Cx.none w sig) args ys.toList)
    (hrun : isTrue (run E L G n (.call f args false .ret H0)) = true) : Calls E.P f ys w (TrueP w) := by
  intro cs
  have h := (run_sound hX L G n).call f args false .ret H0 (Cx.none w sig) w ys cs cs hF (Hs.start hl w hs) hargs rfl hk
  have hend : ∀ r, isTrue r = true → C1 E (Cx.none w sig) H0 w f false cs (lone (Frame.enter E.P f ys .normal) cs w) r →
      ∃ e w' fr, TrueP w e w' ∧ Comes E.P (lone (Frame.enter E.P f ys .normal) cs w) (lone fr cs w') e ∧ fr.fn = f ∧ fr.leaving E.P w' e := by
    intro r hr hc
    cases r with
    | ret v cm H' =>
      cases v <;> first | (simp [isTrue] at hr; done) | skip
      rename_i q
      have hq : q = true := hr
      subst hq
      obtain ⟨x, w', c', fr', cs', hst, hv, hcs, hsteps, hfn, hkd, hm, hd, hfun⟩ := hc
      have hcs' : cs' = cs := hcs
      subst hcs'
      cases hv.bool_inv
      have hnim : ∀ B, ¬ Im (Cx.none w sig) B := by
        rintro B ⟨b, k, h⟩; cases h
      exact ⟨.returned (.bool true), w', fr', ⟨rfl, hst.2.size, fun B hB => hst.2.keep B hB (hnim B), hst.2.tape, hst.2.os, hst.2.output⟩, hsteps, hfn, hm, hd, hkd, hfun⟩
    | fail n => simp [isTrue] at hr
    | pan l m H' => simp [isTrue] at hr
    | many l => exact hc.elim
  generalize run E L G n (.call f args false .ret H0) = r at h hrun
  cases r with
  | fail n => simp [isTrue] at hrun
  | pan l m H' => simp [isTrue] at hrun
  | ret v m H' => exact hend _ hrun h
  | many l =>
    obtain ⟨x, hx, hc⟩ := h
    refine hend x ?_ hc
    have := List.all_eq_true.1 (show l.all _ = true from hrun) x hx
    cases x with
    | ret v m H' => cases v <;> first | exact this | (simp at this; done)
    | _ => simp at this
end Go.Eng
