/- The engine's operations are the model's: append, copy (joined). -/
import Derived.Test.YtmhehkkbmkmlkaaGreatEngD
namespace Go.Eng

section
variable {E : Env} {c : Cx} {H : Heap} {w : World}

theorem drew_heap (w : World) : w.drew.heap = w.heap := rfl
theorem zeroCells_list (z : Array Value) (n : Nat) : (Builtin.zeroCells z n).toList = repV z.toList n := range_cells z n

/-- a new row of a drawn capacity -/
theorem Stp.grown (hH : Hs E c H w) {e : TypeId} (hne : Nat.beq e E.tbl = false) (hlim : H.next < E.lim) {i : TypeInfo} (hi : E.P.info? e = some i) {r : AV} {cells : Array Value} {zs post : List Value} (hs : S c r zs)
    (hcs : cells.toList = zs ++ post) (h1 : ∀ y ∈ cells.toList, y.oneCell' = true) {need g : Nat} (hg : need ≤ g) (hsz : cells.size = g * i.size) :
    Stp E c H w ((c.at H.next w.heap.size 0).cap H.ncap g H.next i.size) (newCap (newH E H (.cells false e r)) need) (World.push w.drew (.cells cells e)) := by
  have s1 : Stp E c H w (c.at H.next w.heap.size 0) (newH E H (.cells false e r)) (World.push w.drew (.cells cells e)) :=
    hH.newCells hlim (cs := cells) (lo := 0) (hi := 0) (push_size w.drew _) (fun B h => push_old w.drew _ h) (push_new w.drew _) rfl rfl rfl h1 (by omega) (fun _ => rfl) (fun h => absurd h (Nat.ne_of_beq_eq_false hne)) (ys := zs) (post := post) hcs hs
  refine s1.trans (s1.1.newCap (g := g) (b := H.next) (sz := i.size) hg ⟨w.heap.size, 0, cells, e, (0, 0), at_self _ _ _ _, push_new w.drew _, (cellsOf_eq hi).symm, by rw [hsz]; omega⟩)

theorem V.grown {c : Cx} {b B g sz n j : Nat} (hn : n ≤ g) (hr : c.rho b = some (B, 0)) : V (c.cap j g b sz) (.slice b 0 n (.var j 0)) (.slice (some ⟨B, 0, none⟩) n g) :=
  ⟨B, 0, 0, g, hr, rfl, ⟨g, sz, Cx.cap_gam .., Nat.zero_le _, rfl, Cx.cap_own .., by simp⟩, hn, .inl rfl⟩

theorem growK_none_ok (hH : Hs E c H w) {e : TypeId} {i : TypeInfo} {z : Value} (hi : E.P.info? e = some i) (hzs : z.cells.size = i.size) (hz1 : ∀ y ∈ z.cells.toList, y.oneCell' = true)
    {base new : AV} {olds news : List Value} (hb : S c base olds) (hn : S c new news) (ho1 : ∀ y ∈ olds, y.oneCell' = true) (hn1 : ∀ y ∈ news, y.oneCell' = true) {need : Nat}
    (hlen : olds.length + news.length = need * i.size) {r : Result Value}
    (hr : need ≤ 1000000000 → i.bytes ≤ 100000 → ∃ g, need ≤ g ∧ r = .ok (.slice (some ⟨w.heap.size, 0, none⟩) need g) (World.push w.drew (.cells (olds.toArray ++ news.toArray ++ Builtin.zeroCells z.cells (g - need)) e))) :
    OKV E c H w (growK E H e base new need none) r := by
  unfold growK
  split
  · exact OKV.fail _ _
  · rename_i hc
    rw [Bool.and_eq_true, bytesOf_eq hi] at hc
    obtain ⟨g, hg, rfl⟩ := hr (by simpa using hc.1) (by simpa using hc.2)
    refine rmk_spec (Φ := fun o => OKV E c H w o _) hb hn fun x hx => ?_
    refine hnewR_spec (Φ := fun o => OKV E c H w o _) (fun _ => trivial) fun hne hlim => ?_
    rw [forceN_eq]
    have hcl : (olds.toArray ++ news.toArray ++ Builtin.zeroCells z.cells (g - need)).toList = (olds ++ news) ++ repV z.cells.toList (g - need) := by
      simp [zeroCells_list]
    refine ⟨_, _, _, rfl, Stp.grown hH hne hlim hi hx hcl ?_ hg ?_, V.grown hg (at_self _ _ _ _)⟩
    · rw [hcl]
      intro y hy
      simp only [List.mem_append] at hy
      rcases hy with (h | h) | h
      · exact ho1 y h
      · exact hn1 y h
      · exact repV_one _ hz1 _ y h
    · rw [← Array.length_toList, hcl, List.length_append, List.length_append, repV_length, hlen, Array.length_toList, hzs, ← Nat.add_mul]
      congr 1; omega

theorem growK_some_ok (hH : Hs E c H w) {e : TypeId} {i : TypeInfo} {z : Value} (hi : E.P.info? e = some i) (hzs : z.cells.size = i.size) (hz1 : ∀ y ∈ z.cells.toList, y.oneCell' = true)
    {base new : AV} {olds news : List Value} (hb : S c base olds) (hn : S c new news) (ho1 : ∀ y ∈ olds, y.oneCell' = true) (hn1 : ∀ y ∈ news, y.oneCell' = true) {need len n : Nat}
    (hol : olds.length = len * i.size) (hnl : news.length = n * i.size) (hneed : need = len + n) (hn0 : n ≠ 0)
    {ob o j off B k o' cp : Nat} (hrB : c.rho ob = some (B, k)) (hc : capOK c ob o (.var j off) cp) (ho : o' = k + o ∨ cp = 0)
    (hold : ∀ (cs : Array Value) e fr, w.heap[B]? = some (.cells cs e fr) → o' + len * i.size ≤ cs.size → (cs.toList.drop o').take (len * i.size) = olds)
    {r : Result Value}
    (hroom : need ≤ cp → ∀ cs e lo hi, w.heap[B]? = some (.cells cs e (lo, hi)) → (∀ q, q < cs.size → ¬ (lo ≤ q ∧ q < hi)) → o' + len * i.size + news.length ≤ cs.size →
      r = .ok (.slice (some ⟨B, o', none⟩) need cp) (World.setB w B (.cells (overL cs.toList (o' + len * i.size) news).toArray e (lo, hi))))
    (hgrow : cp < need → need ≤ 1000000000 → i.bytes ≤ 100000 → ∃ g, need ≤ g ∧ r = .ok (.slice (some ⟨w.heap.size, 0, none⟩) need g) (World.push w.drew (.cells (olds.toArray ++ news.toArray ++ Builtin.zeroCells z.cells (g - need)) e))) :
    OKV E c H w (growK E H e base new need (some ob)) r := by
  unfold growK
  split
  · exact OKV.fail _ _
  · rename_i hcd
    rw [Bool.and_eq_true, bytesOf_eq hi] at hcd
    have hc1 : need ≤ 1000000000 := by simpa using hcd.1
    have hc2 : i.bytes ≤ 100000 := by simpa using hcd.2
    refine rmk_spec (Φ := fun o => OKV E c H w o _) hb hn fun x hx => ?_
    refine onCells_spec (Φ := fun o => OKV E c H w o _) (OKV.fail _ _) fun fz e' ry hg => ?_
    split
    · rename_i _ _ he
      cases Nat.eq_of_beq_eq_true he
      obtain ⟨hlt, cs, lo, hi', hB, hone, hfz, hu8, pre, ys, post, hcs, hk, hs⟩ := hH.cells hg hrB
      have hfz' := hfz rfl
      have hreal : real (hget E H ob) = true := by rw [hg]; rfl
      refine hnewR_spec (Φ := fun o => OKV E c H w o _) (fun _ => trivial) fun hne hlim => ?_
      rw [forceN_eq, hset_eq]
      by_cases hcp : need ≤ cp
      · -- the same array goes on under another name
        have hcp0 : cp ≠ 0 := by clear hc; omega
        have ho' : o' = k + o := ho.resolve_right hcp0
        obtain ⟨g, q, hgm, hog, rfl, hq, rfl⟩ := hc
        obtain ⟨B2, k2, cs2, e2, fr2, h1, h2, h3, h4⟩ := hH.own j g ob q hgm hq
        rw [hrB] at h1; cases h1
        rw [hB] at h2; cases h2
        rw [cellsOf_eq hi] at h3
        subst h3
        have hsz2 : off * i.size + (g - off) * i.size = g * i.size := by rw [← Nat.add_mul]; congr 1; omega
        have hle2 : len * i.size + n * i.size ≤ (g - off) * i.size := by rw [← Nat.add_mul]; exact Nat.mul_le_mul_right _ (by omega)
        have hfit : o' + len * i.size + news.length ≤ cs.size := by rw [hnl]; omega
        have hoB := hold cs _ _ hB (by omega)
        rw [hroom hcp cs _ lo hi' hB hfz' hfit]
        have hov : overL cs.toList (o' + len * i.size) news = cs.toList.take o' ++ ((olds ++ news) ++ cs.toList.drop (o' + len * i.size + news.length)) := by
          unfold overL
          rw [← hoB, List.take_add]
          simp only [List.append_assoc]
        have hovl : (overL cs.toList (o' + len * i.size) news).toArray.size = cs.size := by
          rw [List.size_toArray, overL_length _ _ _ (by simpa using hfit)]; simp
        have hB' := block_lt hB
        have s1 : Stp E c H w (c.at H.next B o') (putH E (newH E H (.cells false e x)) ob .dead) (World.setB w B (.cells (overL cs.toList (o' + len * i.size) news).toArray e (lo, hi'))) := by
          refine hH.move hlim hlt hreal hrB (setB_size _ _ _) (fun B' h => setB_other _ h _) (fun ents clock he => ?_) (fun cs2 e2 fr2 he => ?_) rfl rfl rfl ?_
          · rw [hB] at he; cases he
          · rw [hB] at he; cases he
            exact ⟨_, _, setB_same hB' _, hovl⟩
          · refine ⟨.row (by rw [ho', cellsOf_eq hi]; have := (hH.baseMod hg hrB).1; rw [cellsOf_eq hi] at this; rw [Nat.add_mul_mod_self_right]; exact this) (Nat.ne_of_beq_eq_false hne), _, lo, hi', setB_same hB' _, ?_, fun _ => by rw [hovl]; obtain ⟨-, _, _, _, h1, -, h2, -⟩ := hH.rawCells hg hrB; rw [hB] at h1; cases h1; exact h2 rfl, hu8, cs.toList.take o', olds ++ news, cs.toList.drop (o' + len * i.size + news.length), hov, ?_, hx.mono (Cx.at_le (hH.rho_next (Nat.le_refl _)))⟩
            · simpa using overL_one _ _ _ hone hn1
            · rw [List.length_take, Array.length_toList]; omega
        refine ⟨_, _, (c.at H.next B o').cap H.ncap (g - off) H.next i.size, rfl, s1.trans (s1.1.newCap (lo := need) hcp ⟨B, o', _, e, _, at_self _ _ _ _, setB_same hB' _, (cellsOf_eq hi).symm, ?_⟩), ?_⟩
        · rw [hovl]; omega
        · exact ⟨B, o', o', g - off, at_self _ _ _ _, rfl, ⟨g - off, i.size, Cx.cap_gam .., Nat.zero_le _, rfl, Cx.cap_own .., by simp⟩, hcp, .inl rfl⟩
      · -- a new array
        obtain ⟨g, hgn, rfl⟩ := hgrow (by omega) hc1 hc2
        have hcl : (olds.toArray ++ news.toArray ++ Builtin.zeroCells z.cells (g - need)).toList = (olds ++ news) ++ repV z.cells.toList (g - need) := by
          simp [zeroCells_list]
        have h1c : ∀ y ∈ (olds.toArray ++ news.toArray ++ Builtin.zeroCells z.cells (g - need)).toList, y.oneCell' = true := by
          rw [hcl]
          intro y hy
          simp only [List.mem_append] at hy
          rcases hy with (h | h) | h
          · exact ho1 y h
          · exact hn1 y h
          · exact repV_one _ hz1 _ y h
        have hsz : (olds.toArray ++ news.toArray ++ Builtin.zeroCells z.cells (g - need)).size = g * i.size := by
          rw [← Array.length_toList, hcl, List.length_append, List.length_append, repV_length, hol, hnl, Array.length_toList, hzs, ← Nat.add_mul, ← Nat.add_mul]
          congr 1; omega
        have s1 : Stp E c H w (c.at H.next w.heap.size 0) (newH E H (.cells false e x)) (World.push w.drew (.cells (olds.toArray ++ news.toArray ++ Builtin.zeroCells z.cells (g - need)) e)) :=
          hH.newCells hlim (lo := 0) (hi := 0) (push_size w.drew _) (fun B h => push_old w.drew _ h) (push_new w.drew _) rfl rfl rfl h1c (by omega) (fun _ => rfl) (fun h => absurd h (Nat.ne_of_beq_eq_false hne)) hcl hx
        have hlt' : ob < (newH E H (.cells false e x)).next := Nat.lt_succ_of_lt hlt
        have hgo : hget E (newH E H (.cells false e x)) ob = hget E H ob := by
          rw [hget_newH hH.limD H hlim (hH.lim hlt) _, if_neg (by omega)]
        have s2 := s1.1.upd (x := .dead) (w' := World.push w.drew (.cells (olds.toArray ++ news.toArray ++ Builtin.zeroCells z.cells (g - need)) e)) hlt' (by rw [hgo]; exact hreal) (s1.2.le.rho _ _ hrB) rfl (fun _ _ => rfl) (.of_eq rfl) (.of_eq rfl) rfl rfl rfl (by intro h; simp [real] at h)
        have s3 := s1.trans s2
        refine ⟨_, _, (c.at H.next w.heap.size 0).cap H.ncap g H.next i.size, rfl, s3.trans (s2.1.newCap (lo := need) hgn ⟨w.heap.size, 0, _, e, (0, 0), at_self _ _ _ _, push_new w.drew _, (cellsOf_eq hi).symm, by rw [hsz]; omega⟩), V.grown hgn (at_self _ _ _ _)⟩
    · exact OKV.fail _ _

end
end Go.Eng
/- The engine's operations are the model's: append, copy (the operations). -/
namespace Go.Eng

section
variable {E : Env} {c : Cx} {H : Heap} {w : World}

theorem appendN_ok (hH : Hs E c H w) {e : TypeId} {i : TypeInfo} {z : Value} (hi : E.P.info? e = some i) (hiz : i.zero = some z) (hzs : z.cells.size = i.size) (hz1 : ∀ y ∈ z.cells.toList, y.oneCell' = true)
    {sv : AV} {s : Value} (hs : V c sv s) {zeros : Bool} {n : Nat} {appended : Sem (Array Value)} {new : AV} {news : List Value} (hn : S c new news) (hn1 : ∀ y ∈ news, y.oneCell' = true) (hnl : news.length = n * i.size)
    (ha : ∀ w' : World, w'.heap = w.heap → appended.run E.P w' = .ok news.toArray w') {r : Result Value}
    (hrun : ∀ base sLen sCap, s = .slice base sLen sCap → (sCap < sLen + n → sLen + n ≤ 1000000000 ∧ i.bytes ≤ 100000) → r = (appRest e i.size zeros base sLen sCap n s appended).run E.P w) :
    OKV E c H w (appendN E H e i.size sv n new) r := by
  unfold appendN
  split
  · rename_i h0
    have h0' := Nat.eq_of_beq_eq_true h0
    subst h0'
    have hnil : news = [] := List.eq_nil_of_length_eq_zero (by rw [hnl]; simp)
    subst hnil
    split
    · cases hs
      refine OKV.here hH (x := .slice none 0 0) ?_ rfl
      rw [hrun none 0 0 rfl (fun h => by omega)]
      unfold appRest
      simp only [Nat.add_zero]
      rw [if_pos (Nat.le_refl _)]
      simp only [Sem.run_bind, ha w rfl, Result.andThen_ok, Sem.run_pure]
    · rename_i b o len cap
      have hs' := hs
      obtain ⟨B, k, o', cp, hr, e', hc, hle, ho⟩ := hs'.slice_inv
      cases e'
      refine OKV.here hH ?_ hs
      rw [hrun _ _ _ rfl (fun h => by omega)]
      unfold appRest
      simp only [Nat.add_zero]
      rw [if_pos hle]
      simp only [Sem.run_bind, ha w rfl, Result.andThen_ok, storeCells, Sem.run_pure]
    · exact OKV.fail _ _
  · rename_i h0
    have h0' : n ≠ 0 := Nat.ne_of_beq_eq_false h0
    split
    · cases hs
      refine growK_none_ok hH hi hzs hz1 (base := .rnil) (olds := []) rfl hn (by simp) hn1 (by rw [hnl]; simp) fun h1 h2 => ⟨_, grownCap_ge w (0 + n) 0 e |> fun h => by rw [Nat.zero_add] at h; exact h, ?_⟩
      rw [hrun none 0 0 rfl (fun _ => ⟨by omega, h2⟩)]
      have := run_appRest_grow (w := w) (zeros := zeros) (base := none) (sLen := 0) (sCap := 0) (n := n) (s := .slice none 0 0) (olds := []) hi hiz (by omega) (by omega) h2 ha (fun w' _ => run_firstCells_none (P := E.P) w' i.size 0 0 0)
      simpa using this
    · rename_i b o len cap
      have hs' := hs
      obtain ⟨B, k, o', cp, hr, e', hc, hle, ho⟩ := hs'.slice_inv
      cases e'
      obtain ⟨hb1, hb2⟩ := capBounds_spec hH hc
      split
      · rename_i hroom
        have hroom' : len + n ≤ cp := Nat.le_trans (Nat.le_of_ble_eq_true hroom) hb1
        refine onCells_spec (Φ := fun o => OKV E c H w o _) (OKV.fail _ _) fun fz e' ry hg => ?_
        split
        · exact OKV.fail _ _
        · obtain ⟨hlt, cs, lo, hi', hB, hone, hfz, hu8, pre, ys, post, hcs, hk, hys⟩ := hH.cells hg hr
          refine padK_spec hH (Φ := fun o => OKV E c H w o _) (OKV.fail · _) hr hc hB hcs hk hys hroom' fun r' ys' post' hr' hcs' hle' => ?_
          refine rover_spec (Φ := fun o => OKV E c H w o _) (OKV.fail _ _) hr' hn fun r'' hle2 hr'' => ?_
          rw [hset_eq, forceN_eq]
          have ho' : o' = k + o := ho.resolve_right (by clear hc hb1 hb2; omega)
          subst ho'
          have hle3 : o + len * i.size + news.length ≤ ys'.length := hle2
          have hsz : cs.size = pre.length + (ys'.length + post'.length) := by rw [← Array.length_toList, hcs']; simp
          have hfit : k + o + len * i.size + news.length ≤ cs.size := by omega
          have hov : overL cs.toList (k + o + len * i.size) news = pre ++ ((ys'.take (o + len * i.size) ++ (news ++ ys'.drop (o + len * i.size + news.length))) ++ post') := by
            unfold overL
            rw [hcs', List.take_append, List.take_of_length_le (l := pre) (by omega), hk, show k + o + len * i.size - k = o + len * i.size by omega, List.take_append_of_le_length (by omega)]
            rw [List.drop_append, List.drop_of_length_le (l := pre) (by omega), List.nil_append, hk, show k + o + len * i.size + news.length - k = o + len * i.size + news.length by omega, List.drop_append_of_le_length (by omega)]
            simp
          have hrr := run_appRest_room (P := E.P) (elem := e) (zeros := zeros) (s := .slice (some ⟨B, k + o, none⟩) len cp) hroom' (ha w rfl) hB hn1 hfit (hfz rfl)
          refine ⟨_, _, c, (hrun _ _ _ rfl (fun h => by omega)).trans hrr, hH.cellsUpd hg hr hB (cs' := (overL cs.toList (k + o + len * i.size) news).toArray) (by simpa using overL_one _ _ _ hone hn1) ?_ hov hk hr'', ?_⟩
          · rw [List.size_toArray, overL_length _ _ _ (by simpa using hfit)]; simp
          · exact ⟨B, k, k + o, cp, hr, rfl, hc, hroom', .inl rfl⟩
      · rename_i hroom
        refine srcK_spec hH (Φ := fun o => OKV E c H w o _) (OKV.fail · _) hs (fun _ _ _ _ e => by cases e; exact Nat.le_refl _) (fun _ e => by cases e) fun base olds hb hol ho1 hfc => ?_
        have hgrow : ∀ (h1 : len + n ≤ 1000000000) (h2 : i.bytes ≤ 100000), cp < len + n → ∃ g, len + n ≤ g ∧ r = .ok (.slice (some ⟨w.heap.size, 0, none⟩) (len + n) g) (World.push w.drew (.cells (olds.toArray ++ news.toArray ++ Builtin.zeroCells z.cells (g - (len + n))) e)) := by
          intro h1 h2 hlt
          refine ⟨_, grownCap_ge w (len + n) cp e, ?_⟩
          rw [hrun _ _ _ rfl (fun _ => ⟨h1, h2⟩)]
          exact run_appRest_grow hi hiz hlt h1 h2 ha hfc
        have hsome : (∃ j off, cap = .var j off) → OKV E c H w (growK E H e base new (Nat.add len n) (some b)) r := by
          rintro ⟨j, off, rfl⟩
          refine growK_some_ok hH hi hzs hz1 hb hn ho1 hn1 (len := len) (n := n) hol hnl rfl h0' hr hc ho (fun cs e' fr hB hle2 => ?_) (fun hle2 cs e' lo hi' hB hf hfit => ?_) fun hlt h1 h2 => hgrow h1 h2 hlt
          · have h1 := hfc w rfl
            have h2 : (Builtin.firstCells i.size len (.slice (some ⟨B, o', none⟩) len cp)).run E.P w = .ok ((cs.toList.drop o').take (len * i.size)).toArray w := by
              simp only [Builtin.firstCells]
              exact run_loadCells_own hB hle2
            rw [h1] at h2
            injection h2 with h3
            have := congrArg Array.toList h3
            simpa using this.symm
          · exact (hrun _ _ _ rfl (fun h => by change len + n ≤ cp at hle2; omega)).trans (run_appRest_room hle2 (ha w rfl) hB hn1 hfit hf)
        split
        · rename_i hmx hmxe
          split
          · rename_i hlt
            have hlt' : cp < len + n := Nat.lt_of_le_of_lt (hb2 _ hmxe) (by simpa using hlt)
            exact growK_none_ok hH hi hzs hz1 hb hn ho1 hn1 (by rw [hol, hnl, ← Nat.add_mul]; rfl) fun h1 h2 => hgrow h1 h2 hlt'
          · split
            · exact OKV.fail _ _
            · exact hsome ⟨_, _, rfl⟩
        · split
          · exact OKV.fail _ _
          · exact hsome ⟨_, _, rfl⟩
    · exact OKV.fail _ _

theorem zOK_info (hH : Hs E c H w) {e : TypeId} (h : zOK E.P e = true) : ∃ i z, E.P.info? e = some i ∧ i.zero = some z ∧ S c (zeroC E.P e) z.cells.toList ∧ (∀ y ∈ z.cells.toList, y.oneCell' = true) ∧ z.cells.size = i.size := by
  obtain ⟨i, z, h1, h2, -, h3, h4, h5, -⟩ := zOK_spec hH h
  exact ⟨i, z, h1, h2, h3, h4, h5⟩

theorem appRest_slice {v : AV} {s : Value} (hs : V c v s) (h : (v = .nils ∨ ∃ b o l cap, v = .slice b o l cap)) : ∃ base l cp, s = .slice base l cp := by
  rcases h with rfl | ⟨b, o, l, cap, rfl⟩
  · cases hs; exact ⟨_, _, _, rfl⟩
  · obtain ⟨B, k, o', cp, -, e, -⟩ := hs.slice_inv; cases e; exact ⟨_, _, _, rfl⟩

theorem hAppend_ok (hH : Hs E c H w) {ts : Array TypeId} {ty : TypeId} {sv xv : AV} {s x : Value} (hs : V c sv s) (hx : V c xv x) :
    OKV E c H w (hAppend E ts sv xv H) ((Builtin.append_ ts ty #[s, x]).run E.P w) := by
  unfold hAppend
  split
  · exact OKV.fail _ _
  · rename_i e he
    split
    · rename_i hz h2
      obtain ⟨i, z, hi, hiz, hzs, hz1, hzsz⟩ := zOK_info hH hz
      refine onNat_spec (Φ := fun o => OKV E c H w o _) (OKV.fail · _) fun k n ex => ?_
      subst ex
      cases hx.int_inv
      split
      · rename_i hb
        rw [Bool.and_eq_true, bytesOf_eq hi] at hb
        have hn1 : n ≤ 1000000 := by simpa using hb.1
        have hn2 : i.bytes ≤ 1000000 := by simpa using hb.2
        rw [cellsOf_eq hi]
        refine appendN_ok hH hi hiz hzsz hz1 hs (zeros := true) (appended := appNew e i.size n true (.int k (.ofNat n))) (zerosT_spec hzs n) (repV_one _ hz1 n) (by rw [repV_length]; simp [hzsz]) (fun w' _ => ?_) fun base sLen sCap e' hsm => ?_
        · unfold appNew
          simp only [Bool.not_true, Bool.false_eq_true, if_false]
          split
          · rename_i h0
            have : repV z.cells.toList n = [] := List.eq_nil_of_length_eq_zero (by rw [repV_length]; simpa [hzsz] using h0)
            rw [this]; rfl
          · simp only [Sem.run_bind, run_zeroValue' hi hiz, Result.andThen_ok, Sem.run_pure, ← zeroCells_list, Array.toArray_toList]
        · subst e'
          exact run_append_eq he hi h2 (fun h => by cases h) (fun _ => ⟨k, rfl, hn1, hn2⟩) hsm
      · exact OKV.fail _ _
    · rename_i hz h2
      obtain ⟨i, z, hi, hiz, hzs, hz1, hzsz⟩ := zOK_info hH hz
      rw [cellsOf_eq hi]
      refine lenK_spec (E := E) (Φ := fun o => OKV E c H w o _) (OKV.fail · _) hx fun n hn hl1 hl2 hl3 => ?_
      refine srcK_spec hH (Φ := fun o => OKV E c H w o _) (OKV.fail · _) hx (fun b o l cap e => Nat.le_of_eq (hl1 b o l cap e)) (fun s e => Nat.le_of_eq (hl3 s e)) fun new news hnew hnl hn1 hfc => ?_
      refine appendN_ok hH hi hiz hzsz hz1 hs (zeros := false) (appended := appNew e i.size n false x) hnew hn1 hnl (fun w' hw' => ?_) fun base sLen sCap e' hsm => ?_
      · unfold appNew
        simp only [Bool.not_false, if_true]
        exact hfc w' hw'
      · subst e'
        exact run_append_eq he hi h2 (fun _ => hn w) (fun h => by cases h) hsm
    · exact OKV.fail _ _

theorem firstCells_zero {P : Program} {x : Value} {n sz : Nat} {w : World} (h : (Builtin.lenOf x).run P w = .ok n w) : (Builtin.firstCells sz 0 x).run P w = .ok #[] w := by
  cases x <;> first
    | (simp [Builtin.lenOf, stuck, Sem.run] at h; done)
    | skip
  · rename_i s
    simp only [Builtin.firstCells, Sem.run_pure]
    congr 1
    apply Array.ext'
    simp [ByteArray.data_extract]
  · rename_i a l cp
    cases a with
    | none => rfl
    | some a => simp only [Builtin.firstCells, Nat.zero_mul]; rfl

theorem goInt_eq (n : Nat) : goInt n = .int .i64 (.ofNat n) := rfl

theorem hCopy_ok (hH : Hs E c H w) {ts : Array TypeId} {ty : TypeId} {dv xv : AV} {d x : Value} (hd : V c dv d) (hx : V c xv x) :
    OKV E c H w (hCopy E ts dv xv H) ((Builtin.copy_ ts ty #[d, x]).run E.P w) := by
  unfold hCopy
  split
  · exact OKV.fail _ _
  · rename_i e he
    split
    · rename_i hz
      obtain ⟨i, z, hi, hiz, hzs, hz1, hzsz⟩ := zOK_info hH hz
      obtain ⟨t, ht, hu⟩ := slTy_spec he
      refine lenK_spec (E := E) (Φ := fun o => OKV E c H w o _) (OKV.fail · _) hd fun a hda hd1 hd2 hd3 => ?_
      refine lenK_spec (E := E) (Φ := fun o => OKV E c H w o _) (OKV.fail · _) hx fun b hxb hx1 hx2 hx3 => ?_
      have hmin : minN a b = Nat.min b a := by
        show _ = if b ≤ a then b else a
        unfold minN
        cases h : Nat.ble b a with
        | true => rw [if_pos (Nat.le_of_ble_eq_true h)]
        | false => rw [if_neg fun h2 => by rw [Nat.ble_eq_true_of_le h2] at h; cases h]
      rw [hmin]
      generalize hm : Nat.min b a = n
      have hnb : n ≤ b := by rw [← hm]; exact Nat.min_le_left _ _
      have hna : n ≤ a := by rw [← hm]; exact Nat.min_le_right _ _
      have hrun : ∀ base l cp, d = .slice base l cp → l = a → (Builtin.copy_ ts ty #[d, x]).run E.P w = Sem.run E.P (do
          let cells ← Builtin.firstCells i.size n x
          if let some a := base then storeCells a cells.toList
          pure (goInt n)) w := by
        rintro base l cp rfl rfl
        unfold Builtin.copy_
        simp only [ht, List.getElem?_toArray, List.getElem?_cons_zero, List.getElem?_cons_succ, Sem.run_bind, run_underlying hu, Result.andThen_ok, run_sizeOf' hi, hxb w, hm]
        rfl
      have hsrc : ∀ {Φ : OR → Prop} (hf : ∀ n, Φ (.fail n)) {k : AV → OR}, (∀ r zs, S c r zs → zs.length = n * i.size → (∀ y ∈ zs, y.oneCell' = true) → (∀ w' : World, w'.heap = w.heap → (Builtin.firstCells i.size n x).run E.P w' = .ok zs.toArray w') → Φ (k r)) → Φ (srcK E H i.size n xv k) :=
        fun {_} hf {k} hk => srcK_spec hH hf hx (fun b' o l cap e => Nat.le_trans hnb (Nat.le_of_eq (hx1 b' o l cap e))) (fun s e => Nat.le_trans hnb (Nat.le_of_eq (hx3 s e))) hk
      unfold copyN
      split
      · cases hd
        have ha0 : a = 0 := hd2 rfl
        have hn0 : n = 0 := by omega
        subst hn0
        refine OKV.here hH (x := .int .i64 (.ofNat 0)) ?_ rfl
        rw [hrun none 0 0 rfl ha0.symm]
        simp only [Sem.run_bind, firstCells_zero (hxb w), Result.andThen_ok, Sem.run_pure, goInt_eq]
      · rename_i bl o l cap
        obtain ⟨B, k, o', cp, hr, e', hc, hle, ho⟩ := hd.slice_inv
        cases e'
        have hal : a = l := hd1 _ _ _ _ rfl
        split
        · rename_i h0
          have hn0 : n = 0 := Nat.eq_of_beq_eq_true h0
          subst hn0
          refine OKV.here hH (x := .int .i64 (.ofNat 0)) ?_ rfl
          rw [hrun _ _ _ rfl hal.symm]
          simp only [Sem.run_bind, firstCells_zero (hxb w), Result.andThen_ok, storeCells, Sem.run_pure, goInt_eq]
        · rename_i h0
          have hn0 : n ≠ 0 := Nat.ne_of_beq_eq_false h0
          rw [cellsOf_eq hi]
          refine hsrc (Φ := fun o => OKV E c H w o _) (OKV.fail · _) fun new news hnew hnl hn1 hfc => ?_
          refine onCells_spec (Φ := fun o => OKV E c H w o _) (OKV.fail _ _) fun fz e' ry hg => ?_
          split
          · exact OKV.fail _ _
          · obtain ⟨hlt, cs, lo, hi', hB, hone, hfz, hu8, pre, ys, post, hcs, hk, hys⟩ := hH.cells hg hr
            refine padK_spec hH (Φ := fun o => OKV E c H w o _) (OKV.fail · _) hr hc hB hcs hk hys (show n ≤ cp by omega) fun r' ys' post' hr' hcs' hle' => ?_
            refine rover_spec (Φ := fun o => OKV E c H w o _) (OKV.fail _ _) hr' hnew fun r'' hle2 hr'' => ?_
            rw [hset_eq, mkN_eq]
            have ho' : o' = k + o := ho.resolve_right (by clear hc; omega)
            subst ho'
            have hsz : cs.size = pre.length + (ys'.length + post'.length) := by rw [← Array.length_toList, hcs']; simp
            have hfit : k + o + news.length ≤ cs.size := by omega
            have hov : overL cs.toList (k + o) news = pre ++ ((ys'.take o ++ (news ++ ys'.drop (o + news.length))) ++ post') := by
              unfold overL
              rw [hcs', List.take_append, List.take_of_length_le (l := pre) (by omega), hk, show k + o - k = o by omega, List.take_append_of_le_length (by omega)]
              rw [List.drop_append, List.drop_of_length_le (l := pre) (by omega), List.nil_append, hk, show k + o + news.length - k = o + news.length by omega, List.drop_append_of_le_length (by omega)]
              simp
            have hst := run_storeCells_own (P := E.P) (o := k + o) news 0 cs w hB hn1 (by simpa using hfit) (hfz rfl)
            refine ⟨.int .i64 (.ofNat n), _, c, ?_, hH.cellsUpd hg hr hB (cs' := (overL cs.toList (k + o) news).toArray) (by simpa using overL_one _ _ _ hone hn1) ?_ hov hk hr'', rfl⟩
            · rw [hrun _ _ _ rfl hal.symm]
              simp only [Sem.run_bind, hfc w rfl, Result.andThen_ok, hst, Sem.run_pure, goInt_eq]
              rfl
            · rw [List.size_toArray, overL_length _ _ _ (by simpa using hfit)]; simp
      · exact OKV.fail _ _
    · exact OKV.fail _ _
end
end Go.Eng
/- The engine's operations are the model's: maps. -/
namespace Go.Eng

/-- entries, one for one -/
def EL (c : Cx) : List (AV × AV) → List MapEntry → Prop
  | [], l => l = []
  | (a, b) :: es, l => ∃ e l', l = e :: l' ∧ keyAV a = true ∧ V c a e.key ∧ V c b e.val ∧ EL c es l'
theorem ES.iff {c : Cx} : ∀ {es : List (AV × AV)} {l : List MapEntry}, ES c es l ↔ ∃ l', l.Perm l' ∧ EL c es l'
  | [], l => ⟨fun h => ⟨[], by cases h; exact .refl _, rfl⟩, fun ⟨l', hp, h⟩ => by cases h; exact List.Perm.eq_nil hp⟩
  | (a, b) :: es, l => by
    constructor
    · rintro ⟨e, l1, hp, hk, ha, hb, hs⟩
      obtain ⟨l2, hp2, h2⟩ := ES.iff.1 hs
      exact ⟨e :: l2, hp.trans (hp2.cons e), e, l2, rfl, hk, ha, hb, h2⟩
    · rintro ⟨l', hp, e, l2, rfl, hk, ha, hb, h2⟩
      exact ⟨e, l2, hp, hk, ha, hb, ES.iff.2 ⟨l2, .refl _, h2⟩⟩

theorem EL.length {c : Cx} : ∀ {es : List (AV × AV)} {l : List MapEntry}, EL c es l → es.length = l.length
  | [], _, h => by cases h; rfl
  | (_, _) :: _, _, ⟨_, _, e, _, _, _, h⟩ => by subst e; simp [EL.length h]
theorem ES.length {c : Cx} {es : List (AV × AV)} {l : List MapEntry} (h : ES c es l) : es.length = l.length := by
  obtain ⟨l', hp, h'⟩ := ES.iff.1 h
  rw [EL.length h', hp.length_eq]
theorem EL.mem {c : Cx} : ∀ {es : List (AV × AV)} {l : List MapEntry}, EL c es l → ∀ e ∈ l, ∃ p ∈ es, keyAV p.1 = true ∧ V c p.1 e.key ∧ V c p.2 e.val
  | [], _, h, e, he => by cases h; cases he
  | (a, b) :: es, _, ⟨e0, l', eq, hk, ha, hb, h⟩, e, he => by
    subst eq
    rcases List.mem_cons.1 he with rfl | he
    · exact ⟨(a, b), List.mem_cons_self, hk, ha, hb⟩
    · obtain ⟨p, hp, r⟩ := EL.mem h e he
      exact ⟨p, List.mem_cons_of_mem _ hp, r⟩
theorem EL.split {c : Cx} : ∀ {es1 es2 : List (AV × AV)} {p : AV × AV} {l : List MapEntry}, EL c (es1 ++ p :: es2) l →
    ∃ l1 e l2, l = l1 ++ e :: l2 ∧ EL c es1 l1 ∧ keyAV p.1 = true ∧ V c p.1 e.key ∧ V c p.2 e.val ∧ EL c es2 l2
  | [], es2, (a, b), l, ⟨e, l', eq, hk, ha, hb, h⟩ => ⟨[], e, l', eq, rfl, hk, ha, hb, h⟩
  | (a, b) :: es1, es2, p, l, ⟨e, l', eq, hk, ha, hb, h⟩ => by
    obtain ⟨l1, e1, l2, eq1, h1, h2, h3, h4, h5⟩ := EL.split h
    subst eq eq1
    exact ⟨e :: l1, e1, l2, rfl, ⟨e, l1, rfl, hk, ha, hb, h1⟩, h2, h3, h4, h5⟩
theorem EL.join {c : Cx} : ∀ {es1 es2 : List (AV × AV)} {l1 l2 : List MapEntry}, EL c es1 l1 → EL c es2 l2 → EL c (es1 ++ es2) (l1 ++ l2)
  | [], _, _, _, h, h' => by cases h; exact h'
  | (_, _) :: _, _, _, _, ⟨e, l', eq, hk, ha, hb, h⟩, h' => by subst eq; exact ⟨e, _, rfl, hk, ha, hb, EL.join h h'⟩

section
variable {E : Env} {c : Cx} {H : Heap} {w : World}

/-! ### keys -/
/-- two keys held against each other -/
theorem keyEq_spec {a b : AV} {x y : Value} (ha : V c a x) (hb : V c b y) {r : Bool} (h : keyEq a b = some r) : (r = true ↔ x = y) := by
  unfold keyEq at h
  split at h
  · cases ha.int_inv; cases hb.int_inv
    split at h
    · rename_i hk
      cases kEq_spec hk
      cases h
      rw [eqI_eq]
      simp
    · cases h
  · obtain ⟨s, e, hs⟩ := ha; cases e
    obtain ⟨t, e, ht⟩ := hb; cases e
    cases h
    rw [sEq_bytes hs ht]
    constructor
    · intro h
      have h1 := eq_of_beq h
      rw [ByteArray.toList_eq, ByteArray.toList_eq] at h1
      rw [ByteArray.ext (Array.ext' h1)]
    · intro h; cases h; exact beq_self_eq_true _
  · cases ha.bool_inv; cases hb.bool_inv
    cases h
    simp
  · cases h

/-- of the map's kind -/
theorem sameNow_spec {d : TypeDesc} {a b : AV} {x y : Value} (ha : V c a x) (hb : V c b y) (hf : keyFits d a = true) {r : Bool} (h : keyEq a b = some r) : Instr.sameNow d x y = some r := by
  unfold keyEq at h
  split at h
  · cases ha.int_inv; cases hb.int_inv
    split at h
    · rename_i hk
      cases kEq_spec hk
      cases h
      unfold keyFits at hf
      simp only at hf
      split at hf
      · simp only [Instr.sameNow, if_true, eqI_eq]
      · cases hf
    · cases h
  · obtain ⟨s, e, hs⟩ := ha; cases e
    obtain ⟨t, e, ht⟩ := hb; cases e
    cases h
    unfold keyFits at hf
    simp only at hf
    split at hf
    · rw [sEq_bytes hs ht, ← beq_toListBytes]; rfl
    · cases hf
  · cases ha.bool_inv; cases hb.bool_inv
    cases h
    unfold keyFits at hf
    simp only at hf
    split at hf
    · rfl
    · cases hf
  · cases h

theorem keyFits_plain {d : TypeDesc} {a : AV} {x : Value} (ha : V c a x) (hf : keyFits d a = true) : plainKey x = true ∧ keyAV a = true := by
  unfold keyFits at hf
  split at hf
  · cases ha.int_inv; exact ⟨rfl, rfl⟩
  · obtain ⟨s, e, -⟩ := ha; cases e; exact ⟨rfl, rfl⟩
  · cases ha.bool_inv; exact ⟨rfl, rfl⟩
  · cases hf


/-! ### what is found -/
theorem allCmp_spec {key : AV} : ∀ {l : List (AV × AV)}, allCmp key l = true → ∀ p ∈ l, ∃ r, keyEq key p.1 = some r
  | [], _, _, h => by cases h
  | (k', v) :: l, h, p, hp => by
    unfold allCmp at h
    split at h
    · rename_i r hr
      rcases List.mem_cons.1 hp with rfl | hp
      · exact ⟨r, hr⟩
      · exact allCmp_spec h p hp
    · cases h

/-- found: the entry, and that all keys can be held against it; not found: all keys are others -/
theorem findK_spec {Φ : OR → Prop} (hf : ∀ n, Φ (.fail n)) {key : AV} {k : Option AV → OR} : ∀ {es : List (AV × AV)},
    (∀ es1 k' v es2, es = es1 ++ (k', v) :: es2 → (∀ p ∈ es1, keyEq key p.1 = some false) → keyEq key k' = some true → (∀ p ∈ es, ∃ r, keyEq key p.1 = some r) → Φ (k (some v))) →
    ((∀ p ∈ es, keyEq key p.1 = some false) → Φ (k none)) → Φ (findK key es k)
  | [], _, hn => hn (by simp)
  | (k', v) :: l, hs, hn => by
    unfold findK
    split
    · rename_i h
      split
      · rename_i hall
        refine hs [] k' v l rfl (by simp) h fun p hp => ?_
        rcases List.mem_cons.1 hp with rfl | hp
        · exact ⟨_, h⟩
        · exact allCmp_spec hall p hp
      · exact hf _
    · rename_i h
      refine findK_spec hf (fun es1 k'' v' es2 e h1 h2 h3 => ?_) fun h1 => hn fun p hp => ?_
      · refine hs ((k', v) :: es1) k'' v' es2 (by rw [e]; rfl) (fun p hp => ?_) h2 fun p hp => ?_
        · rcases List.mem_cons.1 hp with rfl | hp
          · exact h
          · exact h1 p hp
        · rcases List.mem_cons.1 hp with rfl | hp
          · exact ⟨_, h⟩
          · exact h3 p hp
      · rcases List.mem_cons.1 hp with rfl | hp
        · exact h
        · exact h1 p hp
    · exact hf _

/-- the model finds the same -/
theorem findNow_none {d : TypeDesc} {x : Value} : ∀ {l : List MapEntry} {i : Nat}, (∀ e ∈ l, Instr.sameNow d x e.key = some false) → Instr.findNow d x l i = some none
  | [], _, _ => rfl
  | e :: l, i, h => by
    unfold Instr.findNow
    rw [h e List.mem_cons_self]
    exact findNow_none fun e he => h e (List.mem_cons_of_mem _ he)
theorem findNow_some {d : TypeDesc} {x : Value} : ∀ {l1 l2 : List MapEntry} {e : MapEntry} {i : Nat}, (∀ e ∈ l1, Instr.sameNow d x e.key = some false) → Instr.sameNow d x e.key = some true →
    Instr.findNow d x (l1 ++ e :: l2) i = some (some (i + l1.length, e.val))
  | [], l2, e, i, _, h => by simp [Instr.findNow, h]
  | e0 :: l1, l2, e, i, h1, h2 => by
    simp only [List.cons_append, Instr.findNow]
    rw [h1 e0 List.mem_cons_self]
    simp only
    rw [findNow_some (fun e he => h1 e (List.mem_cons_of_mem _ he)) h2]
    simp only [List.length_cons, Option.some.injEq, Prod.mk.injEq, and_true]
    omega

theorem isMapT_spec {P : Program} {t : TypeId} (h : isMapT P t = true) : ∃ k e d, P.underlying t = some (.map k e) ∧ P.underlying k = some d ∧ keyOf P t = d ∧ elemT P t = e ∧
    (d = .bool ∨ (∃ j, d = .int j) ∨ d = .string) := by
  unfold isMapT at h
  split at h
  · rename_i k e hu
    split at h
    · rename_i hk; exact ⟨k, e, _, hu, hk, by simp [keyOf, hu, hk], by simp [elemT, hu], .inl rfl⟩
    · rename_i j hk; exact ⟨k, e, _, hu, hk, by simp [keyOf, hu, hk], by simp [elemT, hu], .inr (.inl ⟨j, rfl⟩)⟩
    · rename_i hk; exact ⟨k, e, _, hu, hk, by simp [keyOf, hu, hk], by simp [elemT, hu], .inr (.inr rfl)⟩
    · cases h
  · cases h

theorem run_checkKey_plain {P : Program} {b : Bool} {k : TypeId} {d : TypeDesc} {x : Value} (hk : P.underlying k = some d) (hd : d = .bool ∨ (∃ j, d = .int j) ∨ d = .string) : (Instr.checkKey b 10000 k x).run P w = .ok () w := by
  rw [show (10000 : Nat) = 9999 + 1 from rfl]
  unfold Instr.checkKey
  simp only [Sem.run_bind, run_underlying hk, Result.andThen_ok]
  rcases hd with rfl | ⟨j, rfl⟩ | rfl <;> rfl

theorem run_findKey_some {P : Program} {k : TypeId} {d : TypeDesc} {x : Value} (hk : P.underlying k = some d) {l1 l2 : List MapEntry} {e : MapEntry}
    (h1 : ∀ e ∈ l1, Instr.sameNow d x e.key = some false) (h2 : Instr.sameNow d x e.key = some true) : (Instr.findKey k x (l1 ++ e :: l2)).run P w = .ok (some (l1.length, e.val)) w := by
  unfold Instr.findKey
  simp only [Sem.run_bind, run_underlying hk, Result.andThen_ok, findNow_some h1 h2, Nat.zero_add, Sem.run_pure]
theorem run_findKey_none {P : Program} {k : TypeId} {d : TypeDesc} {x : Value} (hk : P.underlying k = some d) {l : List MapEntry}
    (h1 : ∀ e ∈ l, Instr.sameNow d x e.key = some false) : (Instr.findKey k x l).run P w = .ok none w := by
  unfold Instr.findKey
  simp only [Sem.run_bind, run_underlying hk, Result.andThen_ok, findNow_none h1, Sem.run_pure]

/-- the block of a map -/
theorem Hs.mapB (hH : Hs E c H w) {r : Nat} {clk : Nat} {es : List (AV × AV)} (hg : hget E H r = .map clk es) {B : Nat} (hr : c.rho r = some (B, 0)) :
    r < H.next ∧ ∃ ents, w.heap[B]? = some (.map ents clk) ∧ MapOK ents clk ∧ ES c es ents.toList := by
  have hlt := hH.rlt r _ hr
  have h2 := hH.blk r B 0 hlt (by rw [hg]; rfl) hr
  rw [hg] at h2
  exact ⟨hlt, h2.2⟩

theorem run_getObj_map' {P : Program} {B : Nat} {ents : Array MapEntry} {clk : Nat} (h : w.heap[B]? = some (.map ents clk)) : (getObj B).run P w = .ok (.map ents clk) w := by
  simp [getObj, Sem.run, h]

/-- where a key is found -/
theorem map_found {ents : Array MapEntry} {clk : Nat} (hok : MapOK ents clk) {key : AV} {x : Value} (hx : V c key x) {d : TypeDesc} (hd : keyFits d key = true) {es1 es2 : List (AV × AV)} {k' v : AV}
    (hes : ES c (es1 ++ (k', v) :: es2) ents.toList) (hkk : keyEq key k' = some true) (hall : ∀ p ∈ es1 ++ (k', v) :: es2, ∃ r, keyEq key p.1 = some r) :
    ∃ l1 e l2 m1 m2, ents.toList = l1 ++ e :: l2 ∧ e.key = x ∧ V c v e.val ∧ V c k' e.key ∧ keyAV k' = true ∧ (∀ e ∈ l1, Instr.sameNow d x e.key = some false) ∧ Instr.sameNow d x e.key = some true ∧
      EL c es1 m1 ∧ EL c es2 m2 ∧ (l1 ++ l2).Perm (m1 ++ m2) := by
  obtain ⟨l', hp, hel⟩ := ES.iff.1 hes
  obtain ⟨m1, e, m2, rfl, h1, h2, h3, h4, h5⟩ := EL.split hel
  have hmem : e ∈ ents.toList := hp.mem_iff.2 (by simp)
  obtain ⟨l1, l2, hl⟩ := List.append_of_mem hmem
  have hex : x = e.key := (keyEq_spec hx h3 hkk).1 rfl
  refine ⟨l1, e, l2, m1, m2, hl, hex.symm, h4, h3, h2, fun e' he' => ?_, sameNow_spec hx h3 hd hkk, h1, h5, ?_⟩
  · have he'm : e' ∈ m1 ++ e :: m2 := hp.mem_iff.1 (by rw [hl]; simp [he'])
    obtain ⟨p, hpm, hk, hv, -⟩ := EL.mem hel e' he'm
    obtain ⟨r, hr⟩ := hall p hpm
    have hne : e'.key ≠ e.key := by
      have := hok.keys
      rw [hl, List.pairwise_append] at this
      exact this.2.2 e' he' e (by simp)
    have hrf : r = false := by
      cases r with
      | false => rfl
      | true => exact absurd ((keyEq_spec hx hv hr).1 rfl) (by rw [hex]; exact fun h => hne h.symm)
    rw [hrf] at hr
    exact sameNow_spec hx hv hd hr
  · rw [hl] at hp
    exact (List.perm_middle.symm.trans (hp.trans List.perm_middle)).cons_inv

theorem map_absent {ents : Array MapEntry} {key : AV} {x : Value} (hx : V c key x) {d : TypeDesc} (hd : keyFits d key = true) {es : List (AV × AV)}
    (hes : ES c es ents.toList) (hall : ∀ p ∈ es, keyEq key p.1 = some false) : ∀ e ∈ ents.toList, Instr.sameNow d x e.key = some false ∧ e.key ≠ x := by
  intro e he
  obtain ⟨l', hp, hel⟩ := ES.iff.1 hes
  obtain ⟨p, hpm, hk, hv, -⟩ := EL.mem hel e (hp.mem_iff.1 he)
  refine ⟨sameNow_spec hx hv hd (hall p hpm), fun h => ?_⟩
  have := (keyEq_spec hx hv (hall p hpm)).2 h.symm
  cases this
end
end Go.Eng
/- The engine's operations are the model's: map operations. -/
namespace Go.Eng

section
variable {E : Env} {c : Cx} {H : Heap} {w : World}

theorem hLookup_ok (hH : Hs E c H w) {t : TypeId} {mv kv : AV} {m x : Value} {ok : Bool} (hm : V c mv m) (hx : V c kv x) : OKV E c H w (hLookup E t mv kv ok H) ((Instr.lookup t m x ok).run E.P w) := by
  unfold hLookup
  split
  · rename_i hmk hz
    rw [Bool.and_eq_true] at hmk
    obtain ⟨k, e, d, hu, hk, hd, he, hkind⟩ := isMapT_spec hmk.1
    have hfit := hmk.2
    rw [hd] at hfit
    rw [he] at hz ⊢
    obtain ⟨i, z, hi, hiz, hzv, -⟩ := zOK_spec hH hz
    refine onMap_spec (Φ := fun o => OKV E c H w o _) (OKV.fail _ _) (fun r em => ?_) fun em => ?_
    · subst em
      obtain ⟨B, hr, e'⟩ := hm
      cases e'
      refine onMapB_spec (Φ := fun o => OKV E c H w o _) (OKV.fail _ _) fun clk es hg => ?_
      obtain ⟨hlt, ents, hB, hok, hes⟩ := hH.mapB hg hr
      refine findK_spec (Φ := fun o => OKV E c H w o _) (OKV.fail · _) (fun es1 k' v es2 e1 h1 h2 h3 => ?_) fun h1 => ?_
      · subst e1
        obtain ⟨l1, e0, l2, m1, m2, hl, hkx, hv, -, -, hs1, hs2, -⟩ := map_found hok hx hfit hes h2 h3
        refine OKV.here hH ?_ (okPair_spec (ok := ok) (b := true) hv)
        simp only [Instr.lookup, Sem.run_bind, run_underlying hu, Result.andThen_ok, run_getObj_map' hB, Sem.run_pure, run_checkKey_plain hk hkind]
        rw [hl, run_findKey_some hk hs1 hs2]
        cases ok <;> rfl
      · have hab := map_absent hx hfit hes h1
        refine OKV.here hH ?_ (okPair_spec (ok := ok) (b := false) hzv)
        simp only [Instr.lookup, Sem.run_bind, run_underlying hu, Result.andThen_ok, run_getObj_map' hB, Sem.run_pure, run_checkKey_plain hk hkind]
        rw [run_findKey_none hk fun e he => (hab e he).1]
        simp only [Result.andThen_ok, Sem.run_bind, run_zeroValue' hi hiz, Sem.run_pure]
    · subst em
      cases hm
      refine OKV.here hH ?_ (okPair_spec (ok := ok) (b := false) hzv)
      simp only [Instr.lookup, Sem.run_bind, run_underlying hu, Result.andThen_ok, Sem.run_pure, run_checkKey_plain hk hkind]
      rw [run_findKey_none hk (l := (#[] : Array MapEntry).toList) (by simp)]
      simp only [Result.andThen_ok, Sem.run_bind, run_zeroValue' hi hiz, Sem.run_pure]
  · exact OKV.fail _ _

def cellsO : Obj → Bool | .cells _ _ _ => true | _ => false
theorem run_setObj' {P : Program} {B : Nat} {o o' : Obj} (h : w.heap[B]? = some o) (hc : cellsO o = false) : (setObj B o').run P w = .ok () (World.setB w B o') := by
  simp only [setObj, Sem.run]
  rw [h]
  cases o <;> first | (simp [cellsO] at hc; done) | rfl

theorem pairwise_replace {α β : Type} {R : β → β → Prop} {f : α → β} {l1 l2 : List α} {a b : α} (hf : f a = f b) (h : (l1 ++ a :: l2).Pairwise fun x y => R (f x) (f y)) : (l1 ++ b :: l2).Pairwise fun x y => R (f x) (f y) := by
  rw [← List.pairwise_map] at h ⊢
  simpa [hf] using h

theorem putL_found {key v k' v' : AV} : ∀ {es1 es2 : List (AV × AV)}, (∀ p ∈ es1, keyEq key p.1 = some false) → keyEq key k' = some true → putL key v (es1 ++ (k', v') :: es2) = es1 ++ (k', v) :: es2
  | [], _, _, h => by simp [putL, h]
  | (a, b) :: es1, es2, h1, h => by
    have := h1 (a, b) List.mem_cons_self
    simp only at this
    simp [putL, this, putL_found (fun p hp => h1 p (List.mem_cons_of_mem _ hp)) h]
theorem putL_absent {key v : AV} : ∀ {es : List (AV × AV)}, (∀ p ∈ es, keyEq key p.1 = some false) → putL key v es = es ++ [(key, v)]
  | [], _ => rfl
  | (a, b) :: es, h1 => by
    have := h1 (a, b) List.mem_cons_self
    simp only at this
    simp [putL, this, putL_absent (fun p hp => h1 p (List.mem_cons_of_mem _ hp))]
theorem delL_found {key k' v' : AV} : ∀ {es1 es2 : List (AV × AV)}, (∀ p ∈ es1, keyEq key p.1 = some false) → keyEq key k' = some true → delL key (es1 ++ (k', v') :: es2) = es1 ++ es2
  | [], _, _, h => by simp [delL, h]
  | (a, b) :: es1, es2, h1, h => by
    have := h1 (a, b) List.mem_cons_self
    simp only at this
    simp [delL, this, delL_found (fun p hp => h1 p (List.mem_cons_of_mem _ hp)) h]
theorem delL_absent {key : AV} : ∀ {es : List (AV × AV)}, (∀ p ∈ es, keyEq key p.1 = some false) → delL key es = es
  | [], _ => rfl
  | (a, b) :: es, h1 => by
    have := h1 (a, b) List.mem_cons_self
    simp only at this
    simp [delL, this, delL_absent (fun p hp => h1 p (List.mem_cons_of_mem _ hp))]

theorem modify_at {α : Type} (f : α → α) (l2 : List α) (e : α) : ∀ l1 : List α, (l1 ++ e :: l2).modify l1.length f = l1 ++ f e :: l2
  | [] => rfl
  | a :: l1 => by simp [modify_at f l2 e l1]
theorem eraseIdx_at {α : Type} (l2 : List α) (e : α) : ∀ l1 : List α, (l1 ++ e :: l2).eraseIdx l1.length = l1 ++ l2
  | [] => rfl
  | a :: l1 => by simp [eraseIdx_at l2 e l1]
theorem run_keyStays {P : Program} {x : Value} (h : plainKey x = true) : (Instr.keyThatStays x x).run P w = .ok x w := by
  cases x <;> first | (simp [plainKey] at h; done) | simp [Instr.keyThatStays, Instr.sameBits, ByteArray.toList_eq, beq_toListBytes]

/-- a map is laid anew -/
theorem Hs.mapUpd (hH : Hs E c H w) {r : Nat} {clk clk' : Nat} {es es' : List (AV × AV)} (hg : hget E H r = .map clk es) {B : Nat} (hr : c.rho r = some (B, 0)) {ents ents' : Array MapEntry}
    (hB : w.heap[B]? = some (.map ents clk)) (hle : clk ≤ clk') (hmm : clk' = clk → ∀ e' ∈ ents', ∃ e ∈ ents, e.born = e'.born ∧ e.key = e'.key) (hok : MapOK ents' clk') (hes : ES c es' ents'.toList) :
    Stp E c H w c (putH E H r (.map clk' es')) (World.setB w B (.map ents' clk')) := by
  refine hH.upd (hH.rlt r _ hr) (by rw [hg]; rfl) hr (setB_size _ _ _) (fun B' h => setB_other _ h _) (fun en ck he => ?_) (fun cs e fr he => ?_) rfl rfl rfl fun _ => ?_
  · rw [hB] at he; cases he
    exact ⟨ents', clk', setB_same (block_lt hB) _, hle, hmm⟩
  · rw [hB] at he; cases he
  · exact ⟨rfl, ents', setB_same (block_lt hB) _, hok, hes⟩

theorem hUpdate_ok (hH : Hs E c H w) {t : TypeId} {mv kv vv : AV} {m x y : Value} (hm : V c mv m) (hx : V c kv x) (hy : V c vv y) : OKU E c H w (hUpdate E t mv kv vv H) ((Instr.mapUpdate t m x y).run E.P w) := by
  unfold hUpdate
  split
  · rename_i hmk
    rw [Bool.and_eq_true] at hmk
    obtain ⟨k, e, d, hu, hk, hd, he, hkind⟩ := isMapT_spec hmk.1
    have hfit := hmk.2
    rw [hd] at hfit
    obtain ⟨hpl, hka⟩ := keyFits_plain hx hfit
    refine onMap_spec (Φ := fun o => OKU E c H w o _) (OKU.fail _ _) (fun r em => ?_) fun em => OKU.fail _ _
    subst em
    obtain ⟨B, hr, e'⟩ := hm
    cases e'
    refine onMapB_spec (Φ := fun o => OKU E c H w o _) (OKU.fail _ _) fun clk es hg => ?_
    rw [forceV_eq, forceV_eq]
    obtain ⟨hlt, ents, hB, hok, hes⟩ := hH.mapB hg hr
    have hrun : ∀ o, (Instr.findKey k x ents.toList).run E.P w = .ok o w → (Instr.mapUpdate t (.map (some B)) x y).run E.P w = Sem.run E.P (match o with
        | some (i, _) => do
          let key ← Instr.keyThatStays (((ents[i]?).map (·.key)).getD x) x
          setObj B (.map (ents.modify i fun e => { e with key, val := y }) clk)
        | none => setObj B (.map (ents.push { key := x, val := y, born := clk }) (clk + 1))) w := by
      intro o ho
      simp only [Instr.mapUpdate, Sem.run_bind, run_underlying hu, Result.andThen_ok, run_getObj_map' hB, run_checkKey_plain hk hkind, ho]
      rcases o with _ | ⟨i, v⟩ <;> rfl
    refine findK_spec (Φ := fun o => OKU E c H w o _) (OKU.fail · _) (fun es1 k' v es2 e1 h1 h2 h3 => ?_) fun h1 => ?_
    · subst e1
      obtain ⟨l1, e0, l2, m1, m2, hl, hkx, hv, hk', hka', hs1, hs2, hel1, hel2, hperm⟩ := map_found hok hx hfit hes h2 h3
      rw [hset_eq, putL_found h1 h2]
      have hmod : (ents.modify l1.length fun e => { e with key := x, val := y }).toList = l1 ++ { e0 with key := x, val := y } :: l2 := by
        rw [Array.toList_modify, hl, modify_at]
      refine ⟨rfl, _, c, ?_, hH.mapUpd hg hr hB (ents' := ents.modify l1.length fun e => { e with key := x, val := y }) (Nat.le_refl _) ?_ ?_ ?_⟩
      · rw [hrun _ (by rw [hl]; exact run_findKey_some hk hs1 hs2)]
        have : ents[l1.length]? = some e0 := by rw [← Array.getElem?_toList, hl]; simp
        simp only [this, Option.map_some, Option.getD_some, hkx, Sem.run_bind, run_keyStays hpl, Result.andThen_ok]
        exact run_setObj' hB rfl
      · intro _ e' he'
        rw [← Array.mem_toList_iff, hmod] at he'
        rw [← hkx] at he'
        simp only [List.mem_append, List.mem_cons] at he'
        rcases he' with h | rfl | h
        · exact ⟨e', by rw [← Array.mem_toList_iff, hl]; simp [h], rfl, rfl⟩
        · exact ⟨e0, by rw [← Array.mem_toList_iff, hl]; simp, rfl, rfl⟩
        · exact ⟨e', by rw [← Array.mem_toList_iff, hl]; simp [h], rfl, rfl⟩
      · have hmem : ∀ e' ∈ (ents.modify l1.length fun e => { e with key := x, val := y }), ∃ e ∈ ents, e.born = e'.born ∧ e.key = e'.key := by
          intro e' he'
          rw [← Array.mem_toList_iff, hmod] at he'
          simp only [List.mem_append, List.mem_cons] at he'
          rcases he' with h | rfl | h
          · exact ⟨e', by rw [← Array.mem_toList_iff, hl]; simp [h], rfl, rfl⟩
          · exact ⟨e0, by rw [← Array.mem_toList_iff, hl]; simp, rfl, hkx⟩
          · exact ⟨e', by rw [← Array.mem_toList_iff, hl]; simp [h], rfl, rfl⟩
        refine ⟨fun e' he' => ?_, ?_, ?_, fun e' he' => ?_⟩
        · obtain ⟨e, he, -, h2⟩ := hmem e' he'; rw [← h2]; exact hok.plain e he
        · rw [hmod]
          have := hok.keys
          rw [hl] at this
          exact pairwise_replace (f := fun e : MapEntry => e.key) (R := fun a b => a ≠ b) hkx this
        · rw [hmod]
          have := hok.births
          rw [hl] at this
          exact pairwise_replace (f := fun e : MapEntry => e.born) (R := fun a b => a ≠ b) (a := e0) rfl this
        · obtain ⟨e, he, h1, -⟩ := hmem e' he'; rw [← h1]; exact hok.below e he
      · rw [hmod]
        refine ES.iff.2 ⟨m1 ++ { e0 with key := x, val := y } :: m2, ?_, hel1.join ⟨_, m2, rfl, hka', by rw [← hkx]; exact hk', hy, hel2⟩⟩
        exact List.perm_middle.trans ((hperm.cons _).trans List.perm_middle.symm)
    · have hab := map_absent hx hfit hes h1
      dsimp only
      rw [forceN_eq, hset_eq, putL_absent h1]
      refine ⟨rfl, _, c, ?_, hH.mapUpd hg hr hB (ents' := ents.push { key := x, val := y, born := clk }) (Nat.le_succ _) (fun h => by exact absurd h (Nat.succ_ne_self _)) ?_ ?_⟩
      · rw [hrun _ (run_findKey_none hk fun e he => (hab e he).1)]
        exact run_setObj' hB rfl
      · refine ⟨fun e' he' => ?_, ?_, ?_, fun e' he' => ?_⟩
        · rcases Array.mem_push.1 he' with h | rfl
          · exact hok.plain e' h
          · exact hpl
        · rw [Array.toList_push, List.pairwise_append]
          refine ⟨hok.keys, by simp, fun a ha b hb => ?_⟩
          rw [List.mem_singleton] at hb
          subst hb
          exact (hab a ha).2
        · rw [Array.toList_push, List.pairwise_append]
          refine ⟨hok.births, by simp, fun a ha b hb => ?_⟩
          rw [List.mem_singleton] at hb
          subst hb
          have := hok.below a (by simpa using ha)
          show a.born ≠ clk
          omega
        · rcases Array.mem_push.1 he' with h | rfl
          · exact Nat.lt_succ_of_lt (hok.below e' h)
          · exact Nat.lt_succ_self _
      · obtain ⟨l', hp, hel⟩ := ES.iff.1 hes
        rw [Array.toList_push]
        exact ES.iff.2 ⟨l' ++ [{ key := x, val := y, born := clk }], hp.append_right _, hel.join ⟨_, [], rfl, hka, hx, hy, rfl⟩⟩
  · exact OKU.fail _ _
end
end Go.Eng
