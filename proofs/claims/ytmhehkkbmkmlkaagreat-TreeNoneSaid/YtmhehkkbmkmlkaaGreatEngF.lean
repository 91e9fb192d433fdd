/- The engine's operations are the model's: delete; iterators. -/
import Derived.Test.YtmhehkkbmkmlkaaGreatEngE
import Derived.Laws.RangeString
import Derived.Lib.UnsafeStr
import Derived.Lib.ConvBytes
import Derived.Laws.BytesArg
namespace Go.Eng

section
variable {E : Env} {c : Cx} {H : Heap} {w : World}

theorem hDelete_ok (hH : Hs E c H w) {ts : Array TypeId} {ty : TypeId} {mv kv : AV} {m x : Value} (hm : V c mv m) (hx : V c kv x) : OKV E c H w (hDelete E ts mv kv H) ((Builtin.delete_ ts ty #[m, x]).run E.P w) := by
  unfold hDelete
  split
  · rename_i t ht
    split
    · rename_i hmk
      rw [Bool.and_eq_true] at hmk
      obtain ⟨k, e, d, hu, hk, hd, he, hkind⟩ := isMapT_spec hmk.1
      have hfit := hmk.2
      rw [hd] at hfit
      refine onMap_spec (Φ := fun o => OKV E c H w o _) (OKV.fail _ _) (fun r em => ?_) fun em => ?_
      · subst em
        obtain ⟨B, hr, e'⟩ := hm
        cases e'
        refine onMapB_spec (Φ := fun o => OKV E c H w o _) (OKV.fail _ _) fun clk es hg => ?_
        obtain ⟨hlt, ents, hB, hok, hes⟩ := hH.mapB hg hr
        have hrun : ∀ o, (Instr.findKey k x ents.toList).run E.P w = .ok o w → (Builtin.delete_ ts ty #[.map (some B), x]).run E.P w = Sem.run E.P (do
            (match o with
              | some (i, _) => setObj B (.map (ents.eraseIdxIfInBounds i) clk)
              | none => setObj B (.map ents clk))
            pure (.tuple #[])) w := by
          intro o ho
          simp only [Builtin.delete_, ht, List.getElem?_toArray, List.getElem?_cons_zero, List.getElem?_cons_succ, Sem.run_bind, run_underlying hu, Result.andThen_ok, run_getObj_map' hB, run_checkKey_plain hk hkind, ho]
          rcases o with _ | ⟨i, v⟩ <;> simp only [Sem.run_bind]
        refine findK_spec (Φ := fun o => OKV E c H w o _) (OKV.fail · _) (fun es1 k' v es2 e1 h1 h2 h3 => ?_) fun h1 => ?_
        · subst e1
          obtain ⟨l1, e0, l2, m1, m2, hl, hkx, hv, hk', hka', hs1, hs2, hel1, hel2, hperm⟩ := map_found hok hx hfit hes h2 h3
          rw [hset_eq, delL_found h1 h2]
          have hlen : l1.length < ents.size := by rw [← Array.length_toList, hl]; simp
          have her : (ents.eraseIdxIfInBounds l1.length).toList = l1 ++ l2 := by
            unfold Array.eraseIdxIfInBounds
            rw [dif_pos hlen, Array.toList_eraseIdx, hl, eraseIdx_at]
          have hsub : (l1 ++ l2).Sublist ents.toList := by rw [hl]; exact (List.sublist_cons_self _ _).append_left _
          have hmem : ∀ e ∈ ents.eraseIdxIfInBounds l1.length, e ∈ ents := fun e he => by
            rw [← Array.mem_toList_iff, her] at he
            exact Array.mem_toList_iff.1 (hsub.subset he)
          refine ⟨_, _, c, ?_, hH.mapUpd hg hr hB (ents' := ents.eraseIdxIfInBounds l1.length) (Nat.le_refl _) (fun _ e he => ⟨e, hmem e he, rfl, rfl⟩) ⟨fun e he => hok.plain e (hmem e he), by rw [her]; exact hok.keys.sublist hsub, by rw [her]; exact hok.births.sublist hsub, fun e he => hok.below e (hmem e he)⟩ (by rw [her]; exact ES.iff.2 ⟨_, hperm, hel1.join hel2⟩), V.undef c⟩
          rw [hrun _ (by rw [hl]; exact run_findKey_some hk hs1 hs2)]
          simp only [Sem.run_bind, run_setObj' (P := E.P) hB rfl, Result.andThen_ok, Sem.run_pure]
          rfl
        · have hab := map_absent hx hfit hes h1
          rw [hset_eq, delL_absent h1]
          refine ⟨_, _, c, ?_, hH.mapUpd hg hr hB (ents' := ents) (Nat.le_refl _) (fun _ e he => ⟨e, he, rfl, rfl⟩) hok hes, V.undef c⟩
          rw [hrun _ (run_findKey_none hk fun e he => (hab e he).1)]
          simp only [Sem.run_bind, run_setObj' (P := E.P) hB rfl, Result.andThen_ok, Sem.run_pure]
          rfl
      · subst em
        cases hm
        refine OKV.here hH ?_ (V.undef c)
        simp only [Builtin.delete_, ht, List.getElem?_toArray, List.getElem?_cons_zero, List.getElem?_cons_succ, Sem.run_bind, run_underlying hu, Result.andThen_ok, run_checkKey_plain hk hkind, Sem.run_pure]
        rfl
    · exact OKV.fail _ _
  · exact OKV.fail _ _
end
end Go.Eng
/- The engine's operations are the model's: iterators. -/
namespace Go.Eng

section
variable {E : Env} {c : Cx} {H : Heap} {w : World}

theorem hRange_ok (hH : Hs E c H w) {t : TypeId} {v : AV} {x : Value} (hv : V c v x) : OKV E c H w (hRange E t v H) ((Instr.range t x).run E.P w) := by
  unfold hRange
  have hs := idxK_spec E.P t
  split
  · rename_i l hk
    rw [hk] at hs
    cases hs with
    | str hu =>
    obtain ⟨s, e, hl⟩ := hv; cases e
    refine hnew_spec (Φ := fun o => OKV E c H w o _) (fun _ => trivial) fun hlim => ?_
    refine ⟨_, World.push w (.stringIter s 0), _, ?_, hH.new hlim (push_size _ _) (fun B h => push_old _ _ h) rfl rfl rfl ⟨rfl, s, push_new _ _, by simpa using hl⟩, w.heap.size, 0, at_self _ _ _ _, rfl⟩
    simp only [Instr.range, Sem.run_bind, run_underlying hu, Result.andThen_ok, Sem.run_pure, run_newObj]
    rfl
  · split
    · rename_i hm
      obtain ⟨k, e, d, hu, -⟩ := isMapT_spec hm
      cases hv
      refine hnew_spec (Φ := fun o => OKV E c H w o _) (fun _ => trivial) fun hlim => ?_
      refine ⟨_, World.push w (.mapIter none 0 #[] 0), _, ?_, hH.new hlim (push_size _ _) (fun B h => push_old _ _ h) rfl rfl rfl ⟨rfl, _, _, _, push_new _ _⟩, w.heap.size, 0, at_self _ _ _ _, rfl⟩
      simp only [Instr.range, Sem.run_bind, run_underlying hu, Result.andThen_ok, Sem.run_pure, run_newObj]
      rfl
    · exact OKV.fail _ _
  · split
    · rename_i m hm
      obtain ⟨k, e, d, hu, -⟩ := isMapT_spec hm
      obtain ⟨B, hr, e'⟩ := hv; cases e'
      refine onMapB_spec (Φ := fun o => OKV E c H w o _) (OKV.fail _ _) fun clk es hg => ?_
      obtain ⟨hlt, ents, hB, hok, hes⟩ := hH.mapB hg hr
      refine hnew_spec (Φ := fun o => OKV E c H w o _) (fun _ => trivial) fun hlim => ?_
      refine ⟨_, World.push w (.mapIter (some B) clk #[] clk), _, ?_, hH.new hlim (push_size _ _) (fun B h => push_old _ _ h) rfl rfl rfl
        ⟨rfl, B, #[], (Cx.at_le (hH.rho_next (Nat.le_refl _))).rho _ _ hr, push_new _ _, ents, clk, (push_old _ _ (block_lt hB)).trans hB, Nat.le_refl _, fun _ => ⟨rfl, fun i s h => by simp at h⟩⟩, w.heap.size, 0, at_self _ _ _ _, rfl⟩
      simp only [Instr.range, Sem.run_bind, run_underlying hu, Result.andThen_ok, run_getObj_map' hB, Sem.run_pure, run_newObj]
      rfl
    · exact OKV.fail _ _
  · exact OKV.fail _ _

theorem V.tup3 {a b d : AV} {x y z : Value} (h1 : V c a x) (h2 : V c b y) (h3 : V c d z) : V c (.tup (.cat 1 2 a (.cat 1 1 b d))) (.tuple #[x, y, z]) :=
  ⟨#[x, y, z], rfl, [x], [y, z], rfl, rfl, rfl, h1, [y], [z], rfl, rfl, rfl, h2, h3⟩
theorem V.tup1 {a : AV} {x : Value} (h1 : V c a x) : V c (.tup a) (.tuple #[x]) := ⟨#[x], rfl, h1⟩

theorem Hs.siter (hH : Hs E c H w) {r : Nat} {s : List Nat} {pos : Nat} (hg : hget E H r = .siter s pos) {B k : Nat} (hr : c.rho r = some (B, k)) :
    r < H.next ∧ k = 0 ∧ ∃ str : ByteArray, w.heap[B]? = some (.stringIter str pos) ∧ (str.data.toList.map UInt8.toNat).drop pos = s := by
  have hlt := hH.rlt r _ hr
  have h2 := hH.blk r B k hlt (by rw [hg]; rfl) hr
  rw [hg] at h2
  exact ⟨hlt, h2⟩
theorem Hs.miter (hH : Hs E c H w) {r : Nat} {m : Option Nat} {clk : Nat} {seen : List AV} (hg : hget E H r = .miter m clk seen) {B k : Nat} (hr : c.rho r = some (B, k)) :
    r < H.next ∧ Bk E c w (.miter m clk seen) B k := by
  have hlt := hH.rlt r _ hr
  have h2 := hH.blk r B k hlt (by rw [hg]; rfl) hr
  rw [hg] at h2
  exact ⟨hlt, h2⟩

theorem run_getObj' {P : Program} {B : Nat} {o : Obj} (h : w.heap[B]? = some o) (hc : cellsO o = false) : (getObj B).run P w = .ok o w := by
  simp only [getObj, Sem.run]
  rw [h]
  cases o <;> first | (simp [cellsO] at hc; done) | rfl
end
end Go.Eng
/- The engine's operations are the model's: a step over a string, over a map. -/
namespace Go.Eng

section
variable {E : Env} {c : Cx} {H : Heap} {w : World}

/-- a key stands for one value -/
theorem keyAV_det {a : AV} (hk : keyAV a = true) {x y : Value} (hx : V c a x) (hy : V c a y) : x = y := by
  cases a <;> first | (simp [keyAV] at hk; done) | skip
  · cases hx.bool_inv; cases hy.bool_inv; rfl
  · cases hx.int_inv; cases hy.int_inv; rfl
  · obtain ⟨s, e, hs⟩ := hx; cases e
    obtain ⟨t, e, ht⟩ := hy; cases e
    rw [← ht] at hs
    have h1 : s.data.toList = t.data.toList := (List.map_inj_right fun a b h => UInt8.toNat_inj.1 h).1 hs
    rw [ByteArray.ext (Array.ext' h1)]
theorem keyEq_iff {a b : AV} (ka : keyAV a = true) (kb : keyAV b = true) {x y : Value} (hx : V c a x) (hy : V c b y) : keyEq a b = some true ↔ x = y := by
  constructor
  · intro h; exact (keyEq_spec hx hy h).1 rfl
  · rintro rfl
    cases h : keyEq a b with
    | some r => rw [(keyEq_spec hx hy h).2 rfl]
    | none =>
      exfalso
      cases a <;> first | (simp [keyAV] at ka; done) | skip
      · cases hx.bool_inv
        cases b <;> first | (simp [keyAV] at kb; done) | skip
        · simp [keyEq] at h
        · cases hy.int_inv
        · obtain ⟨s, e, -⟩ := hy; cases e
      · cases hx.int_inv
        cases b <;> first | (simp [keyAV] at kb; done) | skip
        · cases hy.bool_inv
        · cases hy.int_inv
          simp [keyEq, kEq_refl] at h
        · obtain ⟨s, e, -⟩ := hy; cases e
      · obtain ⟨s, e, -⟩ := hx; cases e
        cases b <;> first | (simp [keyAV] at kb; done) | skip
        · cases hy.bool_inv
        · cases hy.int_inv
        · simp [keyEq] at h

theorem hasKey_iff {a : AV} (ka : keyAV a = true) {x : Value} (hx : V c a x) : ∀ {seen : List AV}, (∀ s ∈ seen, keyAV s = true ∧ ∃ y, V c s y) → (hasKey a seen = true ↔ ∃ s ∈ seen, V c s x)
  | [], _ => by simp [hasKey]
  | s :: seen, h => by
    obtain ⟨ks, y, hy⟩ := h s List.mem_cons_self
    have ih := hasKey_iff ka hx (seen := seen) fun s hs => h s (List.mem_cons_of_mem _ hs)
    have hiff := keyEq_iff ka ks hx hy
    unfold hasKey
    split
    · rename_i he
      have := hiff.1 he
      subst this
      simp [hy]
    · rename_i hne
      rw [ih]
      constructor
      · rintro ⟨t, ht, hv⟩; exact ⟨t, List.mem_cons_of_mem _ ht, hv⟩
      · rintro ⟨t, ht, hv⟩
        rcases List.mem_cons.1 ht with rfl | ht
        · exact absurd (hiff.2 (keyAV_det ks hv hy)) hne
        · exact ⟨t, ht, hv⟩

theorem leftL_spec {seen : List AV} {f : MapEntry → Bool} : ∀ {es : List (AV × AV)} {l : List MapEntry}, EL c es l → (∀ a, ∀ e ∈ l, keyAV a = true → V c a e.key → f e = !hasKey a seen) → EL c (leftL seen es) (l.filter f)
  | [], _, h, _ => by cases h; rfl
  | (a, b) :: es, _, ⟨e, l', eq, hk, ha, hb, h⟩, hf => by
    subst eq
    have h1 := hf a e List.mem_cons_self hk ha
    have ih := leftL_spec h fun a e he => hf a e (List.mem_cons_of_mem _ he)
    unfold leftL
    split
    · rename_i hs
      simp only at hs
      rw [List.filter_cons_of_neg (by rw [h1, hs]; simp)]
      exact ih
    · rename_i hs
      simp only at hs
      rw [List.filter_cons_of_pos (by rw [h1, hs]; rfl)]
      exact ⟨e, _, rfl, hk, ha, hb, ih⟩

/-! ### a step over a map -/
def candL (left : List MapEntry) : Array (Option MapEntry) := if left.isEmpty then #[none] else (left.map some).toArray

/-- what the model does at a step where nothing was put in since -/
theorem run_next_map {P : Program} {B Bm clk : Nat} {arr : Array Nat} {ents : Array MapEntry} {ty : TypeId} (hB : w.heap[B]? = some (.mapIter (some Bm) clk arr clk)) (hM : w.heap[Bm]? = some (.map ents clk))
    (hb : ∀ e ∈ ents, e.born < clk) : (Instr.next (.pointer (some ⟨B, 0, none⟩)) false ty).run P w = Sem.run P (do
      match (candL (ents.toList.filter fun e => !arr.contains e.born))[← choose (.mapNext (candL (ents.toList.filter fun e => !arr.contains e.born)).size)]? with
      | some (some e) =>
        setObj B (.mapIter (some Bm) clk (arr.push e.born) clk)
        pure (.tuple #[.bool true, e.key, e.val])
      | some none => pure (.tuple #[.bool false])
      | none => stuck "Next: no such candidate") w := by
  unfold Instr.next
  simp only [Sem.run_bind, run_getObj' hB rfl, Result.andThen_ok, run_getObj' hM rfl]
  have h1 : (!arr.isEmpty && !ents.isEmpty && ents.all fun e => decide (e.born ≥ clk)) = false := by
    rw [Bool.and_eq_false_iff]
    by_cases he : ents.isEmpty = true
    · left; simp [he]
    · right
      rw [Bool.eq_false_iff]
      intro hall
      rw [Array.all_eq_true] at hall
      have hne : 0 < ents.size := by
        rcases Nat.eq_zero_or_pos ents.size with h | h
        · exact absurd (by simpa [Array.isEmpty] using h) he
        · exact h
      have h2 := hall 0 hne
      have h3 := hb ents[0] (Array.getElem_mem hne)
      simp only [decide_eq_true_eq] at h2
      omega
  rw [h1]
  simp only [Bool.false_eq_true, if_false, Sem.run_pure, Result.andThen_ok, Sem.run_bind]
  have hold : (ents.filter fun e => !arr.contains e.born).filter (fun e => decide (e.born < clk)) = ents.filter fun e => !arr.contains e.born := by
    apply Array.ext'
    simp only [Array.toList_filter]
    rw [List.filter_eq_self]
    intro e he
    exact decide_eq_true (hb e (by simpa using (List.mem_filter.1 he).1))
  have hnew : (ents.filter fun e => !arr.contains e.born).filter (fun e => decide (e.born ≥ clk)) = #[] := by
    apply Array.ext'
    simp only [Array.toList_filter]
    rw [List.filter_eq_nil_iff]
    intro e he
    have := hb e (by simpa using (List.mem_filter.1 he).1)
    simp only [decide_eq_true_eq]; omega
  rw [hold, hnew]
  have hc : ∀ (L : Array MapEntry), ((if L.isEmpty = true then #[none] else #[]) ++ (L ++ #[]).map some) = candL L.toList := by
    rintro ⟨L⟩
    cases L <;> simp [candL]
  rw [hc, Array.toList_filter]
  rfl

theorem sublist_of_mem {α : Type} {a b : α} : ∀ {l : List α}, a ∈ l → b ∈ l → a ≠ b → [a, b].Sublist l ∨ [b, a].Sublist l
  | [], h, _, _ => by cases h
  | x :: l, ha, hb, hne => by
    rcases List.mem_cons.1 ha with e1 | ha1
    · rcases List.mem_cons.1 hb with e2 | hb1
      · exact absurd (e1.trans e2.symm) hne
      · left; rw [e1]; exact (List.singleton_sublist.2 hb1).cons_cons _
    · rcases List.mem_cons.1 hb with e2 | hb1
      · right; rw [e2]; exact (List.singleton_sublist.2 ha1).cons_cons _
      · rcases sublist_of_mem ha1 hb1 hne with h | h
        · left; exact h.cons _
        · right; exact h.cons _

theorem run_mapNext {P : Program} {n : Nat} (hn : 0 < n) : ∃ i w1, (choose (.mapNext n)).run P w = .ok i w1 ∧ i < n ∧ (w1 = w ∨ w1 = w.drew) := by
  rw [run_choose]
  split
  · exact ⟨0, w, rfl, hn, .inl rfl⟩
  · exact ⟨_, w.drew, rfl, Nat.mod_lt _ hn, .inr rfl⟩

theorem Hs.drewN (hH : Hs E c H w) {w1 : World} (h : w1 = w ∨ w1 = w.drew) : Stp E c H w c H w1 := by
  rcases h with rfl | rfl
  · exact .refl hH
  · exact hH.world rfl rfl rfl rfl

theorem nextBr_eq (E : Env) (H : Heap) (r m c : Nat) (seen : List AV) : ∀ (l : List (AV × AV)) (k : List (AV × Heap) → OR),
    nextBr E H r m c seen l k = k (l.map fun e => (.tup (.cat 1 2 (.bool true) (.cat 1 1 e.1 e.2)), putH E H r (.miter (some m) c (e.1 :: seen))))
  | [], k => rfl
  | e :: l, k => by
    unfold nextBr nextBr.hsetL
    rw [hset_eq, nextBr_eq E H r m c seen l]
    rfl

theorem sEq_iff : ∀ a b : List Nat, sEq a b = true ↔ a = b
  | [], [] => by simp [sEq]
  | [], _ :: _ => by simp [sEq]
  | _ :: _, [] => by simp [sEq]
  | x :: a, y :: b => by
    show Bool.rec (motive := fun _ => Bool) false (sEq a b) (Nat.beq x y) = true ↔ _
    rw [bool_rec]
    have ih := sEq_iff a b
    by_cases h : x = y
    · subst h; simp [ih]
    · simp [h]
theorem keyEq_true {a s : AV} (ka : keyAV a = true) : keyEq a s = some true ↔ s = a := by
  cases a <;> first | (simp [keyAV] at ka; done) | skip
  · rename_i b
    cases s <;> simp only [keyEq, reduceCtorEq]
    rename_i b'
    cases b <;> cases b' <;> simp
  · rename_i k n
    cases s <;> simp only [keyEq, reduceCtorEq]
    rename_i j m
    split
    · rename_i h; cases kEq_spec h
      rw [eqI_eq]
      constructor
      · intro h; simp at h; rw [h]
      · intro h; cases h; simp
    · rename_i h
      constructor
      · intro h; cases h
      · intro h2; cases h2; rw [kEq_refl] at h; cases h
  · rename_i l
    cases s <;> simp only [keyEq, reduceCtorEq]
    constructor
    · intro h; cases (sEq_iff _ _).1 (Option.some.inj h); rfl
    · intro h; cases h; rw [(sEq_iff _ _).2 rfl]
theorem keyAV_inj {a s : AV} (ka : keyAV a = true) (ks : keyAV s = true) {x : Value} (ha : V c a x) (hs : V c s x) : a = s := by
  cases a <;> first | (simp [keyAV] at ka; done) | skip
  · cases ha.bool_inv
    cases s <;> first | (simp [keyAV] at ks; done) | skip
    · cases hs.bool_inv; rfl
    · cases hs.int_inv
    · obtain ⟨s, e, -⟩ := hs; cases e
  · cases ha.int_inv
    cases s <;> first | (simp [keyAV] at ks; done) | skip
    · cases hs.bool_inv
    · cases hs.int_inv; rfl
    · obtain ⟨s, e, -⟩ := hs; cases e
  · obtain ⟨t, e, h1⟩ := ha; cases e
    cases s <;> first | (simp [keyAV] at ks; done) | skip
    · cases hs.bool_inv
    · cases hs.int_inv
    · obtain ⟨s, e, h2⟩ := hs; cases e
      rw [← h1, ← h2]
theorem hasKey_mem {a : AV} (ka : keyAV a = true) : ∀ {seen : List AV}, hasKey a seen = true ↔ a ∈ seen
  | [] => by simp [hasKey]
  | s :: seen => by
    have ih := hasKey_mem ka (seen := seen)
    unfold hasKey
    split
    · rename_i h
      rw [keyEq_true ka] at h
      simp [h]
    · rename_i h
      rw [ih, List.mem_cons]
      constructor
      · exact .inr
      · rintro (rfl | h2)
        · exact absurd ((keyEq_true ka).2 rfl) h
        · exact h2

/-- a step over a map: which entry it is, and what stands behind it -/
theorem map_step (hH : Hs E c H w) {r m clk : Nat} {seen : List AV} (hg : hget E H r = .miter (some m) clk seen) {B k : Nat} (hr : c.rho r = some (B, k)) {es : List (AV × AV)} (hm : hget E H m = .map clk es) {ty : TypeId} :
    (leftL seen es = [] ∧ ∃ w1, (Instr.next (.pointer (some ⟨B, k, none⟩)) false ty).run E.P w = .ok (.tuple #[.bool false]) w1 ∧ Stp E c H w c H w1) ∨
    (∃ p ∈ leftL seen es, ∃ x y w1, (Instr.next (.pointer (some ⟨B, k, none⟩)) false ty).run E.P w = .ok (.tuple #[.bool true, x, y]) w1 ∧ V c p.1 x ∧ V c p.2 y ∧
      Stp E c H w c (putH E H r (.miter (some m) clk (p.1 :: seen))) w1) := by
  obtain ⟨hlt, hk0, Bm, arr, hrm, hB, hit⟩ := hH.miter hg hr
  subst hk0
  obtain ⟨hltm, ents, hM, hok, hes⟩ := hH.mapB hm hrm
  obtain ⟨ents', clock, hM', -, hseen⟩ := hit
  rw [hM] at hM'
  cases hM'
  obtain ⟨hsz, hall⟩ := hseen rfl
  have hrun := run_next_map (P := E.P) (ty := ty) hB hM hok.below
  -- what is left
  have hmemarr : ∀ n, n ∈ arr ↔ ∃ i s, seen[i]? = some s ∧ arr[arr.size - 1 - i]? = some n := by
    intro n
    constructor
    · intro hn
      obtain ⟨j, hj, rfl⟩ := Array.mem_iff_getElem.1 hn
      have hj' : arr.size - 1 - j < seen.length := by omega
      exact ⟨arr.size - 1 - j, seen[arr.size - 1 - j], by simp [hj'], by
        rw [show arr.size - 1 - (arr.size - 1 - j) = j by omega]; simp [hj]⟩
    · rintro ⟨i, s, -, h⟩
      exact Array.mem_of_getElem? h
  have hkeys : ∀ s ∈ seen, keyAV s = true := by
    intro s hs
    obtain ⟨i, hi⟩ := List.mem_iff_getElem?.1 hs
    exact (hall i s hi).1
  have hcontains : ∀ e ∈ ents, (arr.contains e.born = true ↔ ∃ s ∈ seen, V c s e.key) := by
    intro e he
    rw [Array.contains_iff_mem, hmemarr]
    constructor
    · rintro ⟨i, s, hs, ha⟩
      obtain ⟨-, st, hst, hiff⟩ := hall i s hs
      rw [ha] at hst
      cases hst
      exact ⟨s, List.mem_of_getElem? hs, (hiff e he).1 rfl⟩
    · rintro ⟨s, hs, hv⟩
      obtain ⟨i, hi⟩ := List.mem_iff_getElem?.1 hs
      obtain ⟨-, st, hst, hiff⟩ := hall i s hi
      exact ⟨i, s, hi, by rw [hst, (hiff e he).2 hv]⟩
  have hf : ∀ a, ∀ e ∈ ents.toList, keyAV a = true → V c a e.key → (!arr.contains e.born) = !hasKey a seen := by
    intro a e he ka hv
    have h1 := hcontains e (by simpa using he)
    congr 1
    rw [Bool.eq_iff_iff, h1, hasKey_mem ka]
    constructor
    · rintro ⟨s, hs, hv'⟩
      rw [keyAV_inj ka (hkeys s hs) hv hv']; exact hs
    · intro h; exact ⟨a, h, hv⟩
  obtain ⟨l', hp, hel⟩ := ES.iff.1 hes
  have hleft := leftL_spec (f := fun e => !arr.contains e.born) hel fun a e he => hf a e (hp.mem_iff.2 he)
  have hpf : (ents.toList.filter fun e => !arr.contains e.born).Perm (l'.filter fun e => !arr.contains e.born) := hp.filter _
  generalize hL : (ents.toList.filter fun e => !arr.contains e.born) = L at hrun hpf
  rw [hrun]
  rcases L with _ | ⟨e1, L'⟩
  · left
    have hnil : l'.filter (fun e => !arr.contains e.born) = [] := (List.Perm.nil_eq hpf).symm
    rw [hnil] at hleft
    refine ⟨?_, ?_⟩
    · have := EL.length hleft
      exact List.eq_nil_of_length_eq_zero (by simpa using this)
    · obtain ⟨i, w1, hc, hi, hw⟩ := run_mapNext (P := E.P) (w := w) (n := (candL []).size) (by simp [candL])
      refine ⟨w1, ?_, hH.drewN hw⟩
      simp only [Sem.run_bind, hc, Result.andThen_ok]
      have : i = 0 := by simp [candL] at hi; exact hi
      subst this
      rfl
  · right
    obtain ⟨i, w1, hc, hi, hw⟩ := run_mapNext (P := E.P) (w := w) (n := (candL (e1 :: L')).size) (by simp [candL])
    have hi' : i < (e1 :: L').length := by simpa [candL] using hi
    have hget : (candL (e1 :: L'))[i]? = some (some (e1 :: L')[i]) := by
      simp only [candL, List.isEmpty_cons, Bool.false_eq_true, if_false, List.getElem?_toArray, List.getElem?_map, List.getElem?_eq_getElem hi', Option.map_some]
    generalize hee : (e1 :: L')[i] = e at hget
    have hmemL : e ∈ e1 :: L' := by rw [← hee]; exact List.getElem_mem hi'
    have hmem : e ∈ ents.toList ∧ arr.contains e.born = false := by
      rw [← hL] at hmemL
      have := List.mem_filter.1 hmemL
      exact ⟨this.1, by simpa using this.2⟩
    obtain ⟨p, hpm, hk, hv1, hv2⟩ := EL.mem hleft e (hpf.mem_iff.1 hmemL)
    have hstp1 := hH.drewN (E := E) hw
    have hheap : w1.heap = w.heap := by rcases hw with rfl | rfl <;> rfl
    have hB1 : w1.heap[B]? = some (.mapIter (some Bm) clk arr clk) := by rw [hheap]; exact hB
    have hM1 : w1.heap[Bm]? = some (.map ents clk) := by rw [hheap]; exact hM
    have hne : Bm ≠ B := by rintro rfl; rw [hB] at hM; cases hM
    refine ⟨p, hpm, e.key, e.val, World.setB w1 B (.mapIter (some Bm) clk (arr.push e.born) clk), ?_, hv1, hv2, hstp1.trans ?_⟩
    · simp only [Sem.run_bind, hc, Result.andThen_ok, hget]
      rw [run_setObj' hB1 rfl]
      rfl
    · refine hstp1.1.upd hlt (by rw [hg]; rfl) hr (setB_size _ _ _) (fun B' h => setB_other _ h _) (fun en ck he => by rw [hB1] at he; cases he) (fun cs e fr he => by rw [hB1] at he; cases he) rfl rfl rfl fun _ => ?_
      refine ⟨rfl, Bm, arr.push e.born, hrm, setB_same (block_lt hB1) _, ents, clk, (setB_other _ hne _).trans hM1, Nat.le_refl _, fun _ => ⟨by simp [hsz], fun i s hs => ?_⟩⟩
      have hkeye : ∀ e' ∈ ents, (e'.born = e.born ↔ e' = e) := by
        intro e' he'
        constructor
        · intro h
          apply Classical.byContradiction
          intro hne
          have this : ∀ a b, [a, b].Sublist ents.toList → a.born ≠ b.born := fun a b h => List.pairwise_iff_forall_sublist.1 hok.births h
          rcases sublist_of_mem (Array.mem_toList_iff.2 he') hmem.1 hne with hs | hs
          · exact this _ _ hs h
          · exact this _ _ hs h.symm
        · rintro rfl; rfl
      have hkeyk : ∀ e' ∈ ents, (e'.key = e.key ↔ e' = e) := by
        intro e' he'
        constructor
        · intro h
          apply Classical.byContradiction
          intro hne
          have this : ∀ a b, [a, b].Sublist ents.toList → a.key ≠ b.key := fun a b h => List.pairwise_iff_forall_sublist.1 hok.keys h
          rcases sublist_of_mem (Array.mem_toList_iff.2 he') hmem.1 hne with hs | hs
          · exact this _ _ hs h
          · exact this _ _ hs h.symm
        · rintro rfl; rfl
      rcases i with _ | i
      · simp only [List.getElem?_cons_zero, Option.some.injEq] at hs
        subst hs
        refine ⟨hk, e.born, by simp, fun e' he' => ?_⟩
        rw [hkeye e' he', ← hkeyk e' he']
        constructor
        · intro h; rw [h]; exact hv1
        · intro h; exact keyAV_det hk h hv1
      · simp only [List.getElem?_cons_succ] at hs
        obtain ⟨hks, st, hst, hiff⟩ := hall i s hs
        have hlt : i < seen.length := (List.getElem?_eq_some_iff.1 hs).1
        refine ⟨hks, st, ?_, hiff⟩
        rw [Array.getElem?_push, Array.size_push, if_neg (by omega)]
        rw [show arr.size + 1 - 1 - (i + 1) = arr.size - 1 - i by omega]
        exact hst
end
end Go.Eng
/- The engine's operations are the model's: next, entry. -/
namespace Go.Eng

section
variable {E : Env} {c : Cx} {H : Heap} {w : World}

theorem mem_of_left {seen : List AV} : ∀ {es : List (AV × AV)} {p : AV × AV}, p ∈ leftL seen es → p ∈ es
  | [], _, h => by cases h
  | e :: l, p, h => by
    unfold leftL at h
    split at h
    · exact List.mem_cons_of_mem _ (mem_of_left h)
    · rcases List.mem_cons.1 h with rfl | h
      · exact List.mem_cons_self
      · exact List.mem_cons_of_mem _ (mem_of_left h)

theorem run_next_done {P : Program} {B : Nat} {s : ByteArray} {pos : Nat} {ty : TypeId} (hB : w.heap[B]? = some (.stringIter s pos)) (h : ¬ pos < s.size) :
    (Instr.next (.pointer (some ⟨B, 0, none⟩)) true ty).run P w = .ok (.tuple #[.bool false]) w := by
  simp only [Instr.next, Sem.run_bind, run_getObj' hB rfl, Result.andThen_ok, if_neg h, Sem.run_pure]
theorem run_next_ascii' {P : Program} {B : Nat} {s : ByteArray} {pos : Nat} {ty : TypeId} (hB : w.heap[B]? = some (.stringIter s pos)) (h : pos < s.size) (ha : (s[pos]'h).toNat < 128) :
    (Instr.next (.pointer (some ⟨B, 0, none⟩)) true ty).run P w = .ok (.tuple #[.bool true, .int .i64 pos, .int .i32 (s[pos]'h).toNat]) (World.setB w B (.stringIter s (pos + 1))) := by
  simp only [Instr.next, Sem.run_bind, run_getObj' hB rfl, Result.andThen_ok, if_pos h, decode_ascii s pos h ha, run_setObj' hB rfl, Sem.run_pure]
  rfl

theorem hNext_ok (hH : Hs E c H w) {v : AV} {x : Value} {isS : Bool} {ty : TypeId} (hv : V c v x) : OKV E c H w (hNext E v isS H) ((Instr.next x isS ty).run E.P w) := by
  unfold hNext
  split
  · obtain ⟨B, k, hr, e⟩ := hv; cases e
    refine onSiter_spec (Φ := fun o => OKV E c H w o _) (OKV.fail _ _) fun s pos hg => ?_
    obtain ⟨hlt, hk, str, hB, hs⟩ := hH.siter hg hr
    subst hk
    cases s with
    | nil =>
      refine OKV.here hH (run_next_done hB fun h => ?_) (V.tup1 rfl)
      have := List.drop_eq_nil_iff.1 hs
      simp only [List.length_map, Array.length_toList, ByteArray.size_data] at this
      omega
    | cons c0 s' =>
      have hpos : pos < str.size := by
        apply Classical.byContradiction
        intro h
        rw [List.drop_eq_nil_of_le (by simp; omega)] at hs
        cases hs
      have hc : (str[pos]'hpos).toNat = c0 ∧ (str.data.toList.map UInt8.toNat).drop (pos + 1) = s' := by
        have hl : pos < (str.data.toList.map UInt8.toNat).length := by simpa using hpos
        rw [List.drop_eq_getElem_cons hl] at hs
        cases hs
        refine ⟨?_, rfl⟩
        simp
        rfl
      simp only
      split
      · rename_i h128
        rw [forceN_eq, hset_eq]
        have h128' : (str[pos]'hpos).toNat < 128 := by rw [hc.1]; simpa using h128
        refine ⟨_, _, c, run_next_ascii' hB hpos h128', ?_, V.tup3 rfl rfl (by rw [hc.1]; rfl)⟩
        refine hH.upd hlt (by rw [hg]; rfl) hr (setB_size _ _ _) (fun B' h => setB_other _ h _) (fun en ck he => by rw [hB] at he; cases he) (fun cs e fr he => by rw [hB] at he; cases he) rfl rfl rfl fun _ => ?_
        exact ⟨rfl, str, setB_same (block_lt hB) _, hc.2⟩
      · exact OKV.fail _ _
  · obtain ⟨B, k, hr, e⟩ := hv; cases e
    refine onMiter_spec (Φ := fun o => OKV E c H w o _) (OKV.fail _ _) fun m? clk seen hg => ?_
    cases m? with
    | none =>
      obtain ⟨hlt, hk, a, b, d, hB⟩ := hH.miter hg hr
      subst hk
      refine OKV.here hH ?_ (V.tup1 rfl)
      simp only [Instr.next, Sem.run_bind, Nat.add_zero, run_getObj' hB rfl, Result.andThen_ok, Sem.run_pure]
    | some m =>
      refine onMapB_spec (Φ := fun o => OKV E c H w o _) (OKV.fail _ _) fun clk' es hm => ?_
      split
      · exact OKV.fail _ _
      · rename_i hclk
        have hclk' : clk' = clk := Nat.eq_of_beq_eq_true hclk
        subst hclk'
        have hk0 : k = 0 := (hH.miter hg hr).2.1
        subst hk0
        rcases map_step (E := E) hH hg hr hm (ty := ty) with ⟨hl, w1, hrun, hst⟩ | ⟨p, hp, x, y, w1, hrun, h1, h2, hst⟩
        · rw [hl]
          exact ⟨_, w1, c, hrun, hst, V.tup1 rfl⟩
        · split
          · rename_i hl; rw [hl] at hp; cases hp
          · rename_i e hl
            rw [hl] at hp
            cases List.mem_singleton.1 hp
            rw [hset_eq]
            exact ⟨_, w1, c, hrun, hst, V.tup3 rfl h1 h2⟩
          · rw [nextBr_eq]
            exact ⟨_, List.mem_map.2 ⟨p, hp, rfl⟩, _, w1, c, hrun, hst, V.tup3 rfl h1 h2⟩
  · exact OKV.fail _ _

theorem V.tup2 {a b : AV} {x y : Value} (h1 : V c a x) (h2 : V c b y) : V c (.tup (.cat 1 1 a b)) (.tuple #[x, y]) :=
  ⟨#[x, y], rfl, [x], [y], rfl, rfl, rfl, h1, h2⟩

theorem hEntry_ok (hH : Hs E c H w) {v : AV} {x : Value} (hv : V c v x) : OKV E c H w (hEntry E v H) ((Instr.entry x).run E.P w) := by
  unfold hEntry
  split
  · obtain ⟨B, k, hr, e⟩ := hv; cases e
    refine onMiter_spec (Φ := fun o => OKV E c H w o _) (OKV.fail _ _) fun m? clk seen hg => ?_
    split
    · rename_i m key rest
      refine onMapB_spec (Φ := fun o => OKV E c H w o _) (OKV.fail _ _) fun clk' es hm => ?_
      split
      · exact OKV.fail _ _
      · rename_i hclk
        have hclk' : clk' = clk := Nat.eq_of_beq_eq_true hclk
        subst hclk'
        obtain ⟨hlt, hk0, Bm, arr, hrm, hB, hit⟩ := hH.miter hg hr
        subst hk0
        obtain ⟨hltm, ents, hM, hok, hes⟩ := hH.mapB hm hrm
        obtain ⟨ents', clock, hM', -, hseen⟩ := hit
        rw [hM] at hM'
        cases hM'
        obtain ⟨hsz, hall⟩ := hseen rfl
        obtain ⟨hkk, st, hst, hiff⟩ := hall 0 key rfl
        refine findK_spec (Φ := fun o => OKV E c H w o _) (OKV.fail · _) (fun es1 k' v es2 e1 h1 h2 h3 => ?_) fun h1 => OKV.fail _ _
        subst e1
        cases (keyEq_true hkk).1 h2
        obtain ⟨l', hp, hel⟩ := ES.iff.1 hes
        obtain ⟨m1, e, m2, rfl, -, h2', hkv, hvv, -⟩ := EL.split hel
        have hmem : e ∈ ents.toList := hp.mem_iff.2 (by simp)
        have hbe : e.born = st := (hiff e (by simpa using hmem)).2 hkv
        have hfind : ents.find? (fun e => e.born == st) = some e := by
          cases hf : ents.find? (fun e => e.born == st) with
          | none =>
            have := Array.find?_eq_none.1 hf e (by simpa using hmem)
            simp [hbe] at this
          | some e' =>
            have hm' := Array.mem_of_find?_eq_some hf
            have hb' : e'.born = st := by simpa using Array.find?_some hf
            congr 1
            apply Classical.byContradiction
            intro hne
            have this : ∀ a b, [a, b].Sublist ents.toList → a.born ≠ b.born := fun a b h => List.pairwise_iff_forall_sublist.1 hok.births h
            rcases sublist_of_mem (Array.mem_toList_iff.2 hm') hmem hne with hs | hs
            · exact this _ _ hs (hb'.trans hbe.symm)
            · exact this _ _ hs (hbe.trans hb'.symm)
        refine OKV.here hH ?_ (V.tup2 hkv hvv)
        have hback : arr.back? = some st := by rw [Array.back?_eq_getElem?]; simpa using hst
        simp only [Instr.entry, Sem.run_bind, Nat.add_zero, run_getObj' hB rfl, Result.andThen_ok, hback, run_getObj' hM rfl]
        simp only [bne_self_eq_false, Bool.false_eq_true, if_false, hfind, Sem.run_pure, Sem.run_bind, Result.andThen_ok]
    · exact OKV.fail _ _
  · exact OKV.fail _ _
end
end Go.Eng
/- The engine's operations are the model's: built-in functions. -/
namespace Go.Eng

section
variable {E : Env} {c : Cx} {H : Heap} {w : World}

theorem OKV.goInt (hH : Hs E c H w) {n : Nat} {r : Result Value} (hr : r = .ok (goInt (n : Nat)) w) : OKV E c H w (.val (.int .i64 (.ofNat n)) H) r := OKV.here hH hr rfl

theorem hLen_ok (hE : FactsOK E c) (hH : Hs E c H w) {ts : Array TypeId} {ty : TypeId} {v : AV} {x : Value} (hv : V c v x) : OKV E c H w (hLen E ts v H) ((Builtin.len_ ts ty #[x]).run E.P w) := by
  unfold hLen
  split
  · rename_i n hk
    rw [mkN_eq]
    unfold lenKd at hk
    split at hk
    · rename_i t ht
      refine OKV.goInt hH ?_
      split at hk <;> first | (cases hk; done) | skip
      · rename_i m e hu
        cases hk
        simp only [Builtin.len_, ht, List.getElem?_toArray, List.getElem?_cons_zero, Sem.run_bind, run_underlying hu, Result.andThen_ok, Sem.run_pure]
      · rename_i a hu
        split at hk
        · rename_i m e hu2
          cases hk
          simp only [Builtin.len_, ht, List.getElem?_toArray, List.getElem?_cons_zero, Sem.run_bind, run_underlying hu, run_underlying hu2, Result.andThen_ok, Sem.run_pure]
        · cases hk
    · cases hk
  · rename_i hk
    have : ∃ t e, ts[0]? = some t ∧ E.P.underlying t = some (.slice e) := by
      unfold lenKd at hk
      split at hk
      · rename_i t ht
        split at hk <;> first | (cases hk; done) | skip
        · split at hk <;> cases hk
        · rename_i hu; exact ⟨_, _, ht, hu⟩
      · cases hk
    obtain ⟨t, e, ht, hu⟩ := this
    split
    · obtain ⟨B, k, o', cp, -, rfl, -⟩ := hv.slice_inv
      refine OKV.goInt hH ?_
      simp only [Builtin.len_, ht, List.getElem?_toArray, List.getElem?_cons_zero, Sem.run_bind, run_underlying hu, Result.andThen_ok, Sem.run_pure]
    · cases hv
      refine OKV.goInt hH ?_
      simp only [Builtin.len_, ht, List.getElem?_toArray, List.getElem?_cons_zero, Sem.run_bind, run_underlying hu, Result.andThen_ok, Sem.run_pure]
    · exact OKV.fail _ _
  · rename_i hk
    have : ∃ t, ts[0]? = some t ∧ E.P.underlying t = some .string := by
      unfold lenKd at hk
      split at hk
      · rename_i t ht
        split at hk <;> first | (cases hk; done) | skip
        · split at hk <;> cases hk
        · rename_i hu; exact ⟨_, ht, hu⟩
      · cases hk
    obtain ⟨t, ht, hu⟩ := this
    split
    · obtain ⟨s, rfl, hs⟩ := hv.str_inv
      refine slen_spec (Φ := fun o => OKV E c H w o _) (OKV.goInt hH ?_)
      simp only [Builtin.len_, ht, List.getElem?_toArray, List.getElem?_cons_zero, Sem.run_bind, run_underlying hu, Result.andThen_ok, Sem.run_pure]
      rw [← hs]; simp
    · rename_i i
      have hx : x = c.sig i := by simpa [S] using hv
      subst hx
      refine findFact_spec (Φ := fun o => OKV E c H w o _) (OKV.fail _ _) _ fun f hf h1 h2 h3 => ?_
      obtain ⟨y, hy, hvy⟩ := (hE f hf).1 h1 ts ty w hk
      rw [h2] at hy
      exact OKV.here hH hy (hvy c rfl)
    · exact OKV.fail _ _
  · rename_i hk
    have : ∃ t k e, ts[0]? = some t ∧ E.P.underlying t = some (.map k e) := by
      unfold lenKd at hk
      split at hk
      · rename_i t ht
        split at hk <;> first | (cases hk; done) | skip
        · split at hk <;> cases hk
        · rename_i hu; exact ⟨_, _, _, ht, hu⟩
      · cases hk
    obtain ⟨t, k, e, ht, hu⟩ := this
    split
    · cases hv
      refine OKV.goInt hH ?_
      simp only [Builtin.len_, ht, List.getElem?_toArray, List.getElem?_cons_zero, Sem.run_bind, run_underlying hu, Result.andThen_ok, Sem.run_pure]
      rfl
    · obtain ⟨B, hr, e'⟩ := hv; cases e'
      refine onMapB_spec (Φ := fun o => OKV E c H w o _) (OKV.fail _ _) fun clk es hg => ?_
      obtain ⟨hlt, ents, hB, hok, hes⟩ := hH.mapB hg hr
      rw [mkN_eq]
      refine OKV.goInt hH ?_
      simp only [Builtin.len_, ht, List.getElem?_toArray, List.getElem?_cons_zero, Sem.run_bind, run_underlying hu, Result.andThen_ok, Sem.run_pure, run_getObj_map' hB]
      rw [hes.length, Array.length_toList]
    · exact OKV.fail _ _
  · exact OKV.fail _ _

theorem hCap_ok (hH : Hs E c H w) {ts : Array TypeId} {ty : TypeId} {v : AV} {x : Value} (hv : V c v x) : OKV E c H w (hCap E ts v H) ((Builtin.cap_ ts ty #[x]).run E.P w) := by
  unfold hCap
  split
  · exact OKV.fail _ _
  · rename_i e hs
    obtain ⟨t, ht, hu⟩ := slTy_spec hs
    split
    · cases hv
      refine OKV.goInt hH ?_
      simp only [Builtin.cap_, ht, List.getElem?_toArray, List.getElem?_cons_zero, Sem.run_bind, run_underlying hu, Result.andThen_ok, Sem.run_pure]
    · obtain ⟨B, k, o', cp, -, rfl, hc, -⟩ := hv.slice_inv
      have hrun : ∀ n, (Builtin.cap_ ts ty #[.slice (some ⟨B, o', none⟩) n cp]).run E.P w = .ok (goInt cp) w := fun n => by
        simp only [Builtin.cap_, ht, List.getElem?_toArray, List.getElem?_cons_zero, Sem.run_bind, run_underlying hu, Result.andThen_ok, Sem.run_pure]
      split
      · cases hc
        exact OKV.goInt hH (hrun _)
      · obtain ⟨g, sz, h1, h2, rfl, -⟩ := hc
        exact OKV.here hH (hrun _) ⟨g, h1, h2, rfl⟩
    · exact OKV.fail _ _

theorem minMax_ok (hH : Hs E c H w) {isMax : Bool} : ∀ {l : List AV} {ys : List Value} {v : AV} {x : Value}, V c v x → SL c l ys →
    OKV E c H w (minMax isMax l v H) ((ys.foldlM (if isMax then Builtin.max2 else Builtin.min2) x).run E.P w)
  | [], _, v, x, hv, hl => by cases hl; exact OKV.here hH rfl hv
  | a :: l, _, v, x, hv, ⟨y, zs, e, ha, hl⟩ => by
    subst e
    unfold minMax
    split
    · rename_i k m j n
      cases hv.int_inv; cases ha.int_inv
      simp only [List.foldlM_cons, Sem.run_bind]
      have h1 : ((if isMax then Builtin.max2 else Builtin.min2) (.int k m) (.int j n)).run E.P w = .ok (.int k (match (match isMax with | true => ltI m n | false => ltI n m) with | true => n | false => m)) w := by
        cases isMax
        · simp only [Bool.false_eq_true, if_false, Builtin.min2, Sem.run_pure, ltI_eq]
          by_cases h : n < m <;> simp [h]
        · simp only [if_true, Builtin.max2, Sem.run_pure, ltI_eq]
          by_cases h : m < n <;> simp [h, Int.not_lt]
      rw [h1]
      exact minMax_ok hH rfl hl
    · exact OKV.fail _ _

theorem hClear_ok (hH : Hs E c H w) {ts : Array TypeId} {ty : TypeId} {v : AV} {x : Value} (hv : V c v x) : OKV E c H w (hClear E ts v H) ((Builtin.clear_ ts ty #[x]).run E.P w) := by
  unfold hClear
  split
  · exact OKV.fail _ _
  · rename_i e hs
    obtain ⟨t, ht, hu⟩ := slTy_spec hs
    split
    · cases hv
      refine OKV.here hH ?_ (V.undef c)
      simp only [Builtin.clear_, ht, List.getElem?_toArray, List.getElem?_cons_zero, Sem.run_bind, run_underlying hu, Result.andThen_ok, Sem.run_pure]
      rfl
    · rename_i b o n cap
      obtain ⟨B, k, o', cp, hr, rfl, hc, hle, ho⟩ := hv.slice_inv
      split
      · rename_i hn
        have hn' := Nat.eq_of_beq_eq_true hn
        subst hn'
        refine OKV.here hH ?_ (V.undef c)
        simp only [Builtin.clear_, ht, List.getElem?_toArray, List.getElem?_cons_zero, Sem.run_bind, run_underlying hu, Result.andThen_ok, Sem.run_pure]
        rfl
      · rename_i hn
        have hn' := Nat.ne_of_beq_eq_false hn
        split
        · rename_i hz
          obtain ⟨i, z, hi, hiz, hzs, hz1, hsz⟩ := zOK_info hH hz
          have ho' : o' = k + o := by omega
          subst ho'
          refine onCells_spec (Φ := fun o => OKV E c H w o _) (OKV.fail _ _) fun fz e' r hg => ?_
          obtain ⟨hlt, cs, lo, hi', hB, hone, hfz, hu8, pre, ys, post, hcs, hk, hsr⟩ := hH.cells hg hr
          split
          · exact OKV.fail _ _
          · have hfz' := hfz rfl
            have hszc : cs.size = pre.length + (ys.length + post.length) := by rw [← Array.length_toList, hcs]; simp
            have hzz := zerosT_spec (P := E.P) hzs n
            refine rover_spec (Φ := fun o => OKV E c H w o _) (OKV.fail _ _) hsr hzz fun r' hle' hr' => ?_
            rw [hset_eq]
            have hov : overL cs.toList (k + o) (repV z.cells.toList n) = pre ++ ((ys.take o ++ (repV z.cells.toList n ++ ys.drop (o + (repV z.cells.toList n).length))) ++ post) := by
              unfold overL
              rw [hcs, List.take_append, List.take_of_length_le (l := pre) (by omega), hk, show k + o - k = o by omega, List.take_append_of_le_length (by omega)]
              rw [List.drop_append, List.drop_of_length_le (l := pre) (by omega), List.nil_append, hk, show k + o + (repV z.cells.toList n).length - k = o + (repV z.cells.toList n).length by omega, List.drop_append_of_le_length (by omega)]
              simp
            have h1 := repV_one z.cells.toList hz1 n
            refine ⟨_, _, c, ?_, hH.cellsUpd hg hr hB (cs' := (overL cs.toList (k + o) (repV z.cells.toList n)).toArray) (by simpa using overL_one _ _ _ hone h1) ?_ hov hk hr', V.undef c⟩
            · simp only [Builtin.clear_, ht, List.getElem?_toArray, List.getElem?_cons_zero, Sem.run_bind, run_underlying hu, Result.andThen_ok]
              rcases n with _ | n
              · exact absurd rfl hn'
              · simp only [Sem.run_bind, run_zeroValue' hi hiz, Result.andThen_ok, zeroCells_list]
                have := run_storeCells_own (P := E.P) (o := k + o) (repV z.cells.toList (n + 1)) 0 cs w hB h1 (by omega) hfz'
                rw [this]
                rfl
            · rw [List.size_toArray, overL_length _ _ _ (by have := Array.length_toList (xs := cs); omega)]; simp
        · exact OKV.fail _ _
    · exact OKV.fail _ _

theorem hSData_ok (hH : Hs E c H w) {ts : Array TypeId} {ty : TypeId} {v : AV} {x : Value} (hv : V c v x) : OKV E c H w (hSData v H) ((Builtin.unsafeSliceData_ ts ty #[x]).run E.P w) := by
  unfold hSData
  split
  · obtain ⟨B, k, o', cp, hr, rfl, hc, hle, ho⟩ := hv.slice_inv
    split
    · rename_i hn
      have hn' := Nat.ne_of_beq_eq_false hn
      have ho' : o' = k + _ := ho.resolve_right (by omega)
      subst ho'
      exact OKV.here hH (Lib.run_unsafeSliceData_row w ts ty _ _ cp (by omega)) ⟨B, k, hr, rfl⟩
    · exact OKV.fail _ _
  · exact OKV.fail _ _

theorem allBytes_spec : ∀ {l : List AV} {ys : List Value} {ns : List Nat}, SL c l ys → allBytes l = some ns → ∃ bs : List UInt8, ys = bs.map (fun b => Value.int .u8 b.toNat) ∧ bs.map UInt8.toNat = ns
  | [], _, ns, h, hb => by cases h; cases hb; exact ⟨[], rfl, rfl⟩
  | v :: l, _, ns, ⟨y, zs, e, hv, hl⟩, hb => by
    subst e
    unfold allBytes at hb
    split at hb
    · rename_i n
      cases hv.int_inv
      split at hb
      · rename_i hlt
        have hlt' : n < 256 := by simpa using hlt
        split at hb
        · rename_i r hr
          cases hb
          obtain ⟨bs, rfl, rfl⟩ := allBytes_spec hl hr
          have h : (UInt8.ofNat n).toNat = n := by simp [UInt8.toNat_ofNat']; omega
          refine ⟨UInt8.ofNat n :: bs, ?_, ?_⟩
          · simp only [List.map_cons, h]; rfl
          · simp only [List.map_cons, h]
        · cases hb
      · cases hb
    · cases hb

theorem liesAt_row {P : Program} {e : TypeId} (hc : P.cellsOf e = 1) (count off n : Nat) (hn : off + n ≤ count) : liesAt P P.depth e count off e n = true := by
  have hd : P.depth = (2 * (P.types.size + Made.depth) + 1) + 1 := rfl
  rw [hd]
  simp only [liesAt, Bool.or_eq_true]
  left
  rw [hd]
  simp [rowAt, hc, hn, sameLayout, Nat.mod_one]

theorem shape_at {B : Nat} {cs : Array Value} {e : TypeId} {fr : Nat × Nat} (h : w.heap[B]? = some (.cells cs e fr)) : w.shape? B = some (e, cs.size) := by
  simp [World.shape?, h]

theorem freeze_setB {B o n : Nat} {cs : Array Value} {e : TypeId} {lo hi : Nat} (h : w.heap[B]? = some (.cells cs e (lo, hi))) (hn : n ≠ 0) :
    w.freeze ⟨B, o, none⟩ n = World.setB w B (.cells cs e (if lo == hi then (o, o + n) else (min lo o, max hi (o + n)))) := by
  have hB := block_lt h
  unfold World.freeze World.setB
  rw [if_neg hn]
  congr 1
  apply Array.ext_getElem?
  intro i
  simp only [Array.getElem?_modify, Array.getElem?_setIfInBounds]
  by_cases hii : B = i
  · subst hii
    have e0 : w.heap[B] = .cells cs e (lo, hi) := by simpa [Array.getElem?_eq_getElem hB] using h
    simp [hB, e0]
  · rw [if_neg hii, if_neg hii]

theorem unsafeString_arm.{u} {motive : Array Value → Sort u} (p : Option Addr) (x : Value) (F : (p : Option Addr) → (x : Value) → motive #[.pointer p, x]) (G : (a : Array Value) → motive a) :
    Builtin.unsafeString_.match_3 motive #[.pointer p, x] F G = F p x := rfl

theorem ptrTy_spec {P : Program} {ts : Array TypeId} {e : TypeId} (h : ptrTy P ts = some e) : ∃ t, ts[0]? = some t ∧ P.underlying t = some (.pointer e) := by
  unfold ptrTy at h
  split at h
  · rename_i t ht
    split at h
    · rename_i e' hu; cases h; exact ⟨t, ht, hu⟩
    · cases h
  · cases h

theorem hUStr_ok (hH : Hs E c H w) {ts : Array TypeId} {ty : TypeId} {pv nv : AV} {p x : Value} (hp : V c pv p) (hx : V c nv x) : OKV E c H w (hUStr E ts pv nv H) ((Builtin.unsafeString_ ts ty #[p, x]).run E.P w) := by
  unfold hUStr
  split
  · exact OKV.fail _ _
  · rename_i e0 hpt
    obtain ⟨t, ht, hu⟩ := ptrTy_spec hpt
    refine onNat_spec (Φ := fun o => OKV E c H w o _) (OKV.fail · _) fun j n en => ?_
    subst en
    cases hx.int_inv
    have hmax : IntKind.i64.max = 9223372036854775807 := rfl
    split
    · rename_i hn
      have hn' := Nat.eq_of_beq_eq_true hn
      subst hn'
      split
      · obtain ⟨B, k, hr, e⟩ := hp
        cases e
        refine OKV.here hH ?_ ⟨.empty, rfl, rfl⟩
        delta Builtin.unsafeString_; rw [unsafeString_arm]; simp [ asInt, asIntOf, ht, hmax]
      · cases hp
        refine OKV.here hH ?_ ⟨.empty, rfl, rfl⟩
        delta Builtin.unsafeString_; rw [unsafeString_arm]; simp [ asInt, asIntOf, ht, hmax]
      · exact OKV.fail _ _
    · rename_i hn
      have hn' := Nat.ne_of_beq_eq_false hn
      refine cellsAt_spec (Φ := fun o => OKV E c H w o _) (OKV.fail · _) fun b o fz e r ep hg => ?_
      subst ep
      obtain ⟨B, k, hr, e'⟩ := hp; cases e'
      obtain ⟨hlt, cs, lo, hi, hB, hone, hfz, hu8, pre, ys, post, hcs, hk, hs⟩ := hH.cells hg hr
      split
      · rename_i hc
        simp only [Bool.and_eq_true] at hc
        obtain ⟨⟨⟨hc1, hc2⟩, hc3⟩, hc4⟩ := hc
        have hc2' := Nat.eq_of_beq_eq_true hc2
        have hc4' := Nat.eq_of_beq_eq_true hc4
        have hc3' : n ≤ 1000000000 := Nat.le_of_ble_eq_true hc3
        subst hc2'
        refine rslice_spec (Φ := fun o => OKV E c H w o _) (OKV.fail _ _) hs fun y hle hy => ?_
        split
        · rename_i l hl
          rw [hset_eq]
          have hly := rlist_spec hy (zs := []) (acc := []) rfl
          obtain ⟨bs, hbs, hbl⟩ := allBytes_spec hly hl
          rw [List.append_nil] at hbs
          have hlen : bs.length = n := by
            have : (List.take n (List.drop o ys)).length = n := by simp; omega
            rw [hbs] at this; simpa using this
          have hszc : cs.size = pre.length + (ys.length + post.length) := by rw [← Array.length_toList, hcs]; simp
          have hcell : ∀ j x, bs[j]? = some x → w.cell? ((⟨B, k + o, none⟩ : Addr).add j) = some (.int .u8 x.toNat) := by
            intro j x hj
            have hjl : j < bs.length := (List.getElem?_eq_some_iff.1 hj).1
            rw [addr_add, cell_at hB, ← Array.getElem?_toList, hcs, List.getElem?_append_right (by omega), List.getElem?_append_left (by omega)]
            have h1 : (List.take n (List.drop o ys))[j]? = some (.int .u8 x.toNat) := by rw [hbs, List.getElem?_map, hj]; rfl
            rw [List.getElem?_take, if_pos (by omega), List.getElem?_drop] at h1
            rw [show k + o + j - pre.length = o + j by omega]
            exact h1
          have hlb := Lib.run_loadBytes (P := E.P) w bs ⟨B, k + o, none⟩ .empty hcell
          have hlies := liesAt_row (P := E.P) hc4' (cs.size / E.P.cellsOf e) (k + o) n (by rw [hc4', Nat.div_one]; omega)
          obtain ⟨lo', hi', hfr⟩ : ∃ lo' hi', w.freeze ⟨B, k + o, none⟩ n = World.setB w B (.cells cs e (lo', hi')) := ⟨_, _, freeze_setB (n := n) (o := k + o) hB hn'⟩
          rw [hlen] at hlb
          refine ⟨.string ⟨bs.toArray⟩, World.setB w B (.cells cs e (lo', hi')), c, ?_, ?_, ⟨_, rfl, by simpa using hbl⟩⟩
          · have h63 : ¬ (9223372036854775807 : Int) < (n : Int) := by omega
            have hneg : ¬ (n : Int) < 0 := by omega
            delta Builtin.unsafeString_; rw [unsafeString_arm]; simp [ asInt, asIntOf, ht, hmax, h63, hneg, hn', variablesAt, shape_at hB, elemOf, run_underlying hu, hlies, hlb]
            exact hfr
          · refine hH.upd hlt (by rw [hg]; rfl) hr (setB_size _ _ _) (fun B' h => setB_other _ h _) (fun en ck he => by rw [hB] at he; cases he) (fun cs2 e2 fr2 he => by rw [hB] at he; cases he; exact ⟨cs, _, setB_same (block_lt hB) _, rfl⟩) rfl rfl rfl fun _ => ?_
            exact ⟨(hH.baseMod hg hr).upd hB (setB_same (block_lt hB) _) rfl, cs, lo', hi', setB_same (block_lt hB) _, hone, (fun h => absurd h (by decide)), (fun h => absurd (hc1.symm.trans h) (by decide)), pre, ys, post, hcs, hk, hs⟩
        · exact OKV.fail _ _
      · exact OKV.fail _ _
end
end Go.Eng
/- The engine's operations are the model's: conversions. -/
namespace Go.Eng

section
variable {E : Env} {c : Cx} {H : Heap} {w : World}

/-- which conversion it is -/
inductive ConvS (P : Program) (s d : TypeId) : ConvK → Prop where
  | int {a k} (hs : P.underlying s = some (.int a)) (hd : P.underlying d = some (.int k)) : ConvS P s d (.int k)
  | strBytes {e} (hs : P.underlying s = some .string) (hd : P.underlying d = some (.slice e)) (he : P.underlying e = some (.int .u8)) : ConvS P s d (.strBytes e)
  | bytesStr {e} (hs : P.underlying s = some (.slice e)) (hd : P.underlying d = some .string) (he : P.underlying e = some (.int .u8)) : ConvS P s d .bytesStr
  | same (hs : P.underlying s = some .string) (hd : P.underlying d = some .string) : ConvS P s d .same
  | mark {a e} (hs : P.underlying s = some (.slice a)) (hd : P.underlying d = some (.slice e)) (he : P.underlying e = some (.int .u8)) (h : s = d) : ConvS P s d .mark
  | toU {e i} (hs : P.underlying s = some (.pointer e)) (hd : P.underlying d = some .unsafePointer) (hi : P.info? e = some i) (h0 : i.size ≠ 0) : ConvS P s d .toU
  | fromU {u i} (hs : P.underlying s = some .unsafePointer) (hd : P.underlying d = some (.pointer u)) (hi : P.info? u = some i) (h0 : i.size ≠ 0) : ConvS P s d (.fromU u)
  | other : ConvS P s d .other
theorem convK_spec (P : Program) (s d : TypeId) : ConvS P s d (convK P s d) := by
  unfold convK
  split
  · rename_i hs hd; exact .int hs hd
  · rename_i hs hd; exact .same hs hd
  · rename_i hs hd
    split
    · rename_i he; exact .strBytes hs hd he
    · exact .other
  · rename_i hs hd
    split
    · rename_i he; exact .bytesStr hs hd he
    · exact .other
  · rename_i hs hd
    split
    · rename_i i hi
      split
      · exact .other
      · rename_i h0; exact .toU hs hd hi (Nat.ne_of_beq_eq_false h0)
    · exact .other
  · rename_i hs hd
    split
    · rename_i i hi
      split
      · exact .other
      · rename_i h0; exact .fromU hs hd hi (Nat.ne_of_beq_eq_false h0)
    · exact .other
  · rename_i hs hd
    split
    · rename_i h he; exact .mark hs hd he (Nat.eq_of_beq_eq_true h)
    · exact .other
  · exact .other

theorem run_convert_int {P : Program} {s d : TypeId} {a k j : IntKind} {n : Int} (hs : P.underlying s = some (.int a)) (hd : P.underlying d = some (.int k)) :
    (convert s d (.int j n)).run P w = .ok (.int k (k.wrap n)) w := by
  simp [convert, run_underlying hs, run_underlying hd, Conv.intToInt]

theorem bytesOfL_spec {Φ : OR → Prop} (hf : ∀ n, Φ (.fail n)) {r : AV} {zs : List Value} {k : List Nat → OR} (hr : S c r zs)
    (hk : ∀ bs : List UInt8, zs = bs.map (fun b => Value.int .u8 b.toNat) → Φ (k (bs.map UInt8.toNat))) : Φ (bytesOfL r k) := by
  unfold bytesOfL
  split
  · rename_i l hl
    have hly := rlist_spec hr (zs := []) (acc := []) rfl
    obtain ⟨bs, hbs, hbl⟩ := allBytes_spec hly hl
    rw [List.append_nil] at hbs
    rw [← hbl]
    exact hk bs hbs
  · exact hf _

/-- the row of a string's bytes -/
theorem Stp.bytesRow (hH : Hs E c H w) {e : TypeId} (hne : Nat.beq e E.tbl = false) (hlim : H.next < E.lim) (he1 : E.P.cellsOf e = 1) (he : E.P.underlying e = some (.int .u8)) {s : ByteArray} {l : List Nat} (hs : s.data.toList.map UInt8.toNat = l) :
    Stp E c H w ((c.at H.next w.heap.size 0).cap H.ncap (grownCap w s.size 0 e) H.next 1) (newCap (newH E H (.cells false e (rofList (bytesV l)))) l.length) (Lib.bytesWorld w e s) := by
  have hcl : (Lib.bytesCells w e s).toList = s.data.toList.map (fun b => Value.int .u8 b.toNat) ++ List.replicate (grownCap w s.size 0 e - s.size) (.int .u8 0) := by
    simp [Lib.bytesCells]
  have hge := grownCap_ge w s.size 0 e
  have hsz : (Lib.bytesCells w e s).size = grownCap w s.size 0 e := by
    rw [← Array.length_toList, hcl]; simp; omega
  have s1 : Stp E c H w (c.at H.next w.heap.size 0) (newH E H (.cells false e (rofList (bytesV l)))) (Lib.bytesWorld w e s) :=
    hH.newCells hlim (cs := Lib.bytesCells w e s) (lo := (Lib.bytesCells w e s).size) (hi := (Lib.bytesCells w e s).size + 1) (by rw [Lib.bytesWorld_size]; omega) (fun B h => Lib.bytesWorld_at_old w e s B h) (Lib.bytesWorld_at_new w e s)
      (by unfold Lib.bytesWorld World.freeze; split <;> rfl) (by unfold Lib.bytesWorld World.freeze; split <;> rfl) (by unfold Lib.bytesWorld World.freeze; split <;> rfl)
      (by
        rw [hcl]
        intro y hy
        rcases List.mem_append.1 hy with h | h
        · exact bytes_one _ y h
        · rw [(List.mem_replicate.1 h).2]; rfl) (fun _ => .inr (Nat.le_refl _)) (fun h => by simp [isU8, he] at h) (fun h => absurd h (Nat.ne_of_beq_eq_false hne)) hcl (rofList_spec (bytesV_SL l s.data.toList hs))
  refine s1.trans (s1.1.newCap (g := grownCap w s.size 0 e) (b := H.next) (sz := 1) ?_ ⟨w.heap.size, 0, Lib.bytesCells w e s, e, _, at_self _ _ _ _, Lib.bytesWorld_at_new w e s, he1.symm, by rw [hsz]; omega⟩)
  rw [← hs]; simpa using hge

theorem run_mark {P : Program} {s d e : TypeId} {a : TypeId} (hs : P.underlying s = some (.slice a)) (hd : P.underlying d = some (.slice e)) (he : P.underlying e = some (.int .u8)) (h : s = d) {B o len cap : Nat} {cs : Array Value} {e' : TypeId} {fr : Nat × Nat}
    (hB : w.heap[B]? = some (.cells cs e' fr)) : (convert s d (.slice (some ⟨B, o, none⟩) len cap)).run P w = .ok (.slice (some ⟨B, o, none⟩) len cap) (w.freeze ⟨B, cs.size, none⟩ 1) := by
  subst h
  rw [hs] at hd; cases hd
  simp [convert, run_underlying hs, run_underlying he, markStringish, shape_at hB]

theorem run_toU {P : Program} {s d e : TypeId} {i : TypeInfo} (hs : P.underlying s = some (.pointer e)) (hd : P.underlying d = some .unsafePointer) (hi : P.info? e = some i) (h0 : i.size ≠ 0) {B o : Nat} {cs : Array Value} {e' : TypeId} {fr : Nat × Nat}
    (hB : w.heap[B]? = some (.cells cs e' fr)) (ho : o < cs.size) : (convert s d (.pointer (some ⟨B, o, none⟩))).run P w = .ok (.pointer (some ⟨B, o, none⟩)) w := by
  have h1 : ¬ cs.size ≤ o := by omega
  simp [convert, run_underlying hs, run_underlying hd, Conv.unsafePointer, Conv.seenAt, viewAt, cellsIn, shape_at hB, run_sizeOf' hi, h0, h1]

theorem liesAt_own {P : Program} {e : TypeId} (h0 : P.cellsOf e ≠ 0) (count off : Nat) (hm : off % P.cellsOf e = 0) (hn : off / P.cellsOf e + 1 ≤ count) : liesAt P P.depth e count off e 1 = true := by
  have hd : P.depth = (2 * (P.types.size + Made.depth) + 1) + 1 := rfl
  rw [hd]
  simp only [liesAt, Bool.or_eq_true]
  left
  rw [hd]
  simp [rowAt, h0, hm, hn, sameLayout]

theorem run_fromU {P : Program} {s d u : TypeId} {i : TypeInfo} (hs : P.underlying s = some .unsafePointer) (hd : P.underlying d = some (.pointer u)) (hi : P.info? u = some i) (h0 : i.size ≠ 0) {B o : Nat} {cs : Array Value} {fr : Nat × Nat}
    (hB : w.heap[B]? = some (.cells cs u fr)) (ho : o + i.size ≤ cs.size) (hm : o % i.size = 0) : (convert s d (.pointer (some ⟨B, o, none⟩))).run P w = .ok (.pointer (some ⟨B, o, none⟩)) w := by
  have hc := cellsOf_eq hi
  have h1 : liesAt P P.depth u (cs.size / i.size) o u 1 = true := by
    rw [← hc]
    refine liesAt_own (by rw [hc]; exact h0) _ _ (by rw [hc]; exact hm) ?_
    rw [hc]
    have : o / i.size + 1 = (o + i.size) / i.size := by rw [Nat.add_div_right _ (by omega)]
    rw [this]
    exact Nat.div_le_div_right ho
  simp [convert, run_underlying hs, run_underlying hd, Conv.unsafePointer, Conv.seenAt, viewAt, shape_at hB, run_sizeOf' hi, h0, variablesAt, hc, h1]

theorem hConv_ok (hH : Hs E c H w) {s d : TypeId} {v : AV} {x : Value} (hv : V c v x) : OKV E c H w (hConv E s d v H) ((convert s d x).run E.P w) := by
  unfold hConv
  have hs := convK_spec E.P s d
  generalize convK E.P s d = ck at hs
  cases hs with
  | @int a k hs hd =>
    refine onInt_spec (Φ := fun o => OKV E c H w o _) (OKV.fail _ _) fun j n e => ?_
    subst e
    cases hv.int_inv
    have hrun := run_convert_int (w := w) (P := E.P) (j := j) (n := n) hs hd
    cases n with
    | ofNat m =>
      refine boolRec_spec (Φ := fun o => OKV E c H w o _) (fun _ => ?_) fun hm => ?_
      · rw [mkI_eq]; exact OKV.int hH hrun
      · refine OKV.int hH (hrun.trans ?_)
        rw [show k.wrap (Int.ofNat m) = (m : Int) from wrap_small (Nat.le_of_ble_eq_true hm)]
        rfl
    | negSucc m => 
      show OKV E c H w (mkI _ _ _) _
      rw [mkI_eq]; exact OKV.int hH hrun
  | @strBytes e hs hd he =>
    refine boolRec_spec (Φ := fun o => OKV E c H w o _) (fun _ => OKV.fail _ _) fun h1 => ?_
    refine onStr_spec (Φ := fun o => OKV E c H w o _) (OKV.fail _ _) fun l e => ?_
    subst e
    obtain ⟨s, rfl, hl⟩ := hv.str_inv
    refine slen_spec (Φ := fun o => OKV E c H w o _) ?_
    refine hnewR_spec (Φ := fun o => OKV E c H w o _) (fun _ => trivial) fun hne hlim => ?_
    have hll : s.size = l.length := by rw [← hl]; simp
    refine ⟨_, _, _, Lib.run_convert_string_bytes w _ _ _ s hs hd he, Stp.bytesRow hH hne hlim (Nat.eq_of_beq_eq_true h1) he hl, ?_⟩
    rw [hll]
    exact V.grown (by rw [← hll]; exact grownCap_ge _ _ _ _) (at_self _ _ _ _)
  | @bytesStr e hs hd he =>
    show OKV E c H w (bytesK E H v _) _
    unfold bytesK
    split
    · cases hv
      exact OKV.here hH (run_convert_bytes_nil w s e hs he 0 0 d hd) ⟨.empty, rfl, rfl⟩
    · obtain ⟨B, k, o', cp, hr, rfl, hc, hle, ho⟩ := hv.slice_inv
      refine srcK_spec hH (Φ := fun o => OKV E c H w o _) (OKV.fail · _) hv (fun _ _ _ _ e => by cases e; exact Nat.le_refl _) (fun _ e => by cases e) fun r zs hr hzl hz1 hfc => ?_
      refine bytesOfL_spec (Φ := fun o => OKV E c H w o _) (OKV.fail · _) hr fun bs hbs => ?_
      refine OKV.here hH ?_ ⟨⟨bs.toArray⟩, rfl, by simp⟩
      rw [run_convert_bytes_string w s d e _ _ cp hs he hd]
      have h1 := hfc w rfl
      simp only [Builtin.firstCells, Nat.mul_one] at h1
      have h2 : (bs.map fun b => Value.int .u8 b.toNat) = (bs.map fun b => (b.toNat : Int)).map (Value.int .u8) := by simp
      rw [run_bytesToString w _ _ cp (bs.map fun b => (b.toNat : Int)) (by rw [h1, hbs, h2]), foldl_push_bytes]
      have h3 : (bs.map fun b => (b.toNat : Int)).map (fun n => UInt8.ofNat n.toNat) = bs := by
        rw [List.map_map]
        exact (List.map_congr_left fun b _ => by simp).trans (List.map_id _)
      rw [h3]
      congr 2
      apply ByteArray.ext
      show (#[] : Array UInt8) ++ bs.toArray = bs.toArray
      simp
    · exact OKV.fail _ _
  | same hs hd =>
    refine onStr_spec (Φ := fun o => OKV E c H w o _) (OKV.fail _ _) fun l e => ?_
    subst e
    obtain ⟨s, rfl, hl⟩ := hv.str_inv
    refine OKV.here hH ?_ hv
    simp [convert, run_underlying hs, run_underlying hd]
  | @mark a e hs hd he h =>
    refine onSlice_spec (Φ := fun o => OKV E c H w o _) (OKV.fail _ _) (fun b o n cp ev => ?_) fun _ => OKV.fail _ _
    subst ev
    obtain ⟨B, k, o', cp, hr, rfl, hc, hle, ho⟩ := hv.slice_inv
    refine onCells_spec (Φ := fun o => OKV E c H w o _) (OKV.fail _ _) fun fz e' r hg => ?_
    obtain ⟨hlt, cs, lo, hi, hB, hone, hfz, hu8, pre, ys, post, hcs, hk, hsr⟩ := hH.rawCells hg hr
    split
    · rename_i hu
      rw [hset_eq]
      refine ⟨_, _, c, run_mark hs hd he h hB, ?_, hv⟩
      rw [freeze_setB hB (by omega)]
      refine hH.upd hlt (by rw [hg]; rfl) hr (setB_size _ _ _) (fun B' h => setB_other _ h _) (fun en ck he => by rw [hB] at he; cases he) (fun cs2 e2 fr2 he => by rw [hB] at he; cases he; exact ⟨cs, _, setB_same (block_lt hB) _, rfl⟩) rfl rfl rfl fun _ => ?_
      have h2 : fz = false → (if lo == hi then (cs.size, cs.size + 1) else (min lo cs.size, max hi (cs.size + 1))).1 = (if lo == hi then (cs.size, cs.size + 1) else (min lo cs.size, max hi (cs.size + 1))).2 ∨ cs.size ≤ (if lo == hi then (cs.size, cs.size + 1) else (min lo cs.size, max hi (cs.size + 1))).1 := by
        intro h
        right
        split
        · exact Nat.le_refl _
        · rename_i hne
          rcases hfz h with h3 | h3
          · exact absurd (by simpa using h3) hne
          · exact Nat.le_min.2 ⟨h3, Nat.le_refl _⟩
      exact ⟨(hH.baseMod hg hr).upd hB (setB_same (block_lt hB) _) rfl, cs, _, _, setB_same (block_lt hB) _, hone, h2, (fun h => absurd (hu.symm.trans h) (by decide)), pre, ys, post, hcs, hk, hsr⟩
    · exact OKV.fail _ _
  | @toU e i hs hd hi h0 =>
    refine cellsAt_spec (Φ := fun o => OKV E c H w o _) (OKV.fail · _) fun b o fz e' r ev hg => ?_
    subst ev
    obtain ⟨B, k, hr, e⟩ := hv; cases e
    obtain ⟨hlt, cs, lo, hi', hB, hone, hfz, hu8, pre, ys, post, hcs, hk, hsr⟩ := hH.cells hg hr
    split
    · rename_i ho
      have ho' : o < ys.length := by rw [← rsize_spec hsr]; simpa using ho
      have hsz : cs.size = pre.length + (ys.length + post.length) := by rw [← Array.length_toList, hcs]; simp
      exact OKV.here hH (run_toU hs hd hi h0 hB (by omega)) ⟨B, k, hr, rfl⟩
    · exact OKV.fail _ _
  | @fromU u i hs hd hi h0 =>
    refine cellsAt_spec (Φ := fun o => OKV E c H w o _) (OKV.fail · _) fun b o fz e' r ev hg => ?_
    subst ev
    obtain ⟨B, k, hr, e⟩ := hv; cases e
    obtain ⟨hlt, cs, lo, hi', hB, hone, hfz, hu8, pre, ys, post, hcs, hk, hsr⟩ := hH.cells hg hr
    split
    · rename_i ho he
      split
      · rename_i hn
        have ho' := Nat.eq_of_beq_eq_true ho
        have he' := Nat.eq_of_beq_eq_true he
        have hn' := Nat.eq_of_beq_eq_true hn
        subst ho' he'
        rw [rsize_spec hsr, cellsOf_eq hi] at hn'
        have hsz : cs.size = pre.length + (ys.length + post.length) := by rw [← Array.length_toList, hcs]; simp
        have hb := (hH.baseMod hg hr).1
        rw [cellsOf_eq hi] at hb
        exact OKV.here hH (run_fromU hs hd hi h0 hB (by omega) (by simpa using hb)) ⟨B, k, hr, rfl⟩
      · exact OKV.fail _ _
    · exact OKV.fail _ _
  | other => exact OKV.fail _ _
end
end Go.Eng
