/- What the engine's values and blocks stand for; ropes and tries. -/
import Derived.Test.YtmhehkkbmkmlkaaGreatEngA
import Derived.Calls
import Derived.Laws.Sem
import Derived.Laws.Cells
import Derived.Laws.Entries
import Derived.Laws.StructEq
namespace Go.Eng

/-- A context: where abstract blocks lie, what symbols and capacities are. -/
structure Cx where
  N : Nat
  rho : Nat → Option (Nat × Nat)
  sig : Nat → Value
  gam : Nat → Option Nat
  own : Nat → Option (Nat × Nat)     -- the row that a capacity is of, and its elements' size

structure Cx.Le (c d : Cx) : Prop where
  N : d.N = c.N
  sig : d.sig = c.sig
  rho : ∀ b x, c.rho b = some x → d.rho b = some x
  gam : ∀ j g, c.gam j = some g → d.gam j = some g
  own : ∀ j g, c.own j = some g → d.own j = some g

theorem Cx.Le.refl (c : Cx) : c.Le c := ⟨rfl, rfl, fun _ _ h => h, fun _ _ h => h, fun _ _ h => h⟩
theorem Cx.Le.trans {a b c : Cx} (h : a.Le b) (h' : b.Le c) : a.Le c :=
  ⟨h'.N.trans h.N, h'.sig.trans h.sig, fun _ _ x => h'.rho _ _ (h.rho _ _ x), fun _ _ x => h'.gam _ _ (h.gam _ _ x), fun _ _ x => h'.own _ _ (h.own _ _ x)⟩

def capOK (c : Cx) (b o : Nat) (k : ACap) (n : Nat) : Prop := match k with
  | .known m => n = m
  | .var j off => ∃ g sz, c.gam j = some g ∧ off ≤ g ∧ n = g - off ∧ c.own j = some (b, sz) ∧ o = off * sz

/-- A rope of abstract values stands for a list of values. -/
def S (c : Cx) : AV → List Value → Prop
  | .bad, ys => ∃ y, ys = [y]
  | .sym i, ys => ys = [c.sig i]
  | .bool b, ys => ys = [.bool b]
  | .int k n, ys => ys = [.int k n]
  | .str l, ys => ∃ s : ByteArray, ys = [.string s] ∧ s.data.toList.map UInt8.toNat = l
  | .capv j off, ys => ∃ g, c.gam j = some g ∧ off ≤ g ∧ ys = [.int .i64 ((g - off : Nat) : Int)]
  | .ptr b o, ys => ∃ B k, c.rho b = some (B, k) ∧ ys = [.pointer (some ⟨B, k + o, none⟩)]
  | .nilp, ys => ys = [.pointer none]
  | .slice b o len cap, ys => ∃ B k o' cp, c.rho b = some (B, k) ∧ ys = [.slice (some ⟨B, o', none⟩) len cp] ∧ capOK c b o cap cp ∧ len ≤ cp ∧ (o' = k + o ∨ cp = 0)
  | .nils, ys => ys = [.slice none 0 0]
  | .mapv r, ys => ∃ B, c.rho r = some (B, 0) ∧ ys = [.map (some B)]
  | .nilm, ys => ys = [.map none]
  | .func f a b, ys => ∃ x y : Array Value, ys = [.func (.func f) x y] ∧ S c a x.toList ∧ S c b y.toList
  | .yield l, ys => ∃ B, c.rho l = some (B, 0) ∧ ys = [.func (.yield B) #[] #[]]
  | .nilf, ys => ys = [.nilFunc]
  | .iface t v, ys => ∃ x, ys = [.iface t x] ∧ S c v [x]
  | .nili, ys => ys = [.nilIface]
  | .agg r, ys => ∃ cs : Array Value, ys = [.agg cs] ∧ S c r cs.toList ∧ ∀ y ∈ cs.toList, y.oneCell' = true
  | .tup r, ys => ∃ cs : Array Value, ys = [.tuple cs] ∧ S c r cs.toList
  | .rnil, ys => ys = []
  | .cat nl nr l r, ys => ∃ y z, ys = y ++ z ∧ y.length = nl ∧ z.length = nr ∧ S c l y ∧ S c r z

abbrev V (c : Cx) (a : AV) (v : Value) : Prop := S c a [v]

theorem capOK.mono {c d : Cx} (h : c.Le d) {p q : Nat} {k : ACap} {n : Nat} (hk : capOK c p q k n) : capOK d p q k n := by
  cases k with
  | known m => exact hk
  | var j off => obtain ⟨g, sz, a, b, e, f, i⟩ := hk; exact ⟨g, sz, h.gam _ _ a, b, e, h.own _ _ f, i⟩

theorem S.mono {c d : Cx} (h : c.Le d) : ∀ {a : AV} {ys : List Value}, S c a ys → S d a ys := by
  intro a
  induction a with
  | sym i => intro ys hs; simp only [S] at *; rw [h.sig]; exact hs
  | capv j off => rintro ys ⟨g, a, b⟩; exact ⟨g, h.gam _ _ a, b⟩
  | ptr b o => rintro ys ⟨B, k, a, e⟩; exact ⟨B, k, h.rho _ _ a, e⟩
  | slice b o len cap => rintro ys ⟨B, k, o', cp, a, e, hc, r⟩; exact ⟨B, k, o', cp, h.rho _ _ a, e, hc.mono h, r⟩
  | mapv r => rintro ys ⟨B, a, e⟩; exact ⟨B, h.rho _ _ a, e⟩
  | func f a b iha ihb => rintro ys ⟨x, y, e, ha, hb⟩; exact ⟨x, y, e, iha ha, ihb hb⟩
  | yield l => rintro ys ⟨B, a, e⟩; exact ⟨B, h.rho _ _ a, e⟩
  | iface t v ih => rintro ys ⟨x, e, hv⟩; exact ⟨x, e, ih hv⟩
  | agg r ih => rintro ys ⟨cs, e, hv, ho⟩; exact ⟨cs, e, ih hv, ho⟩
  | tup r ih => rintro ys ⟨cs, e, hv⟩; exact ⟨cs, e, ih hv⟩
  | cat nl nr l r ihl ihr => rintro ys ⟨y, z, e, hl, hr, a, b⟩; exact ⟨y, z, e, hl, hr, ihl a, ihr b⟩
  | _ => intro ys hs; exact hs

/-! ### ropes -/
/-- is it a leaf? -/
def leafB : AV → Bool
  | .rnil => false
  | .cat _ _ _ _ => false
  | _ => true

theorem S.leaf {c : Cx} {a : AV} (h : leafB a = true) {ys : List Value} (hs : S c a ys) : ∃ y, ys = [y] := by
  cases a <;> simp only [S] at hs <;> first
    | (simp [leafB] at h; done)
    | exact ⟨_, hs⟩
    | (obtain ⟨y, e⟩ := hs; exact ⟨y, e⟩)
    | (obtain ⟨_, e, _⟩ := hs; exact ⟨_, e⟩)
    | (obtain ⟨_, _, e⟩ := hs; exact ⟨_, e⟩)
    | (obtain ⟨_, _, _, e⟩ := hs; exact ⟨_, e⟩)
    | (obtain ⟨_, _, e, _⟩ := hs; exact ⟨_, e⟩)
    | (obtain ⟨_, _, _, _, _, e, _⟩ := hs; exact ⟨_, e⟩)

theorem rsize_spec {c : Cx} {a : AV} : ∀ {ys : List Value}, S c a ys → rsize a = ys.length := by
  cases a with
  | rnil => intro ys h; cases h; rfl
  | cat nl nr l r =>
    rintro ys ⟨y, z, rfl, hl, hr, -, -⟩
    show nl + nr = _
    simp [hl, hr]
  | _ => intro ys h; obtain ⟨y, rfl⟩ := S.leaf rfl h; rfl

theorem ite_beq_zero {α : Type} (i : Nat) (x y : α) : (Nat.rec (motive := fun _ => α) x (fun _ _ => y) i) = if i = 0 then x else y := by
  cases i <;> rfl

theorem bool_rec {α : Type} (b : Bool) (x y : α) : (Bool.rec (motive := fun _ => α) x y b) = if b = true then y else x := by cases b <;> rfl

theorem rget0_leaf {a : AV} (h : leafB a = true) (y : AV) (i : Nat) (k : AV → OR) (d : OR) : rget0 a y i k d = if i = 0 then k y else d := by
  cases a <;> first | (simp [leafB] at h; done) | (cases i <;> rfl)

theorem rget_cat (nl nr : Nat) (l r : AV) (y : AV) (i : Nat) (k : AV → OR) (d : OR) :
    rget0 (.cat nl nr l r) y i k d = if i < nl then rget l i k d else rget r (i - nl) k d := by
  show Bool.rec (motive := fun _ => OR) (rget0 r r (i - nl) k d) (rget0 l l i k d) (Nat.blt i nl) = _
  rw [bool_rec]
  simp [rget]

/-- what is read out of a rope -/
theorem rget_spec {c : Cx} {Φ : OR → Prop} {k : AV → OR} {d : OR} (hd : Φ d) {a : AV} : ∀ {ys : List Value} {i : Nat}, S c a ys →
    (∀ v y, ys[i]? = some y → V c v y → Φ (k v)) → Φ (rget a i k d) := by
  unfold rget
  suffices H : ∀ (a : AV) {ys : List Value} {i : Nat}, S c a ys → (∀ v y, ys[i]? = some y → V c v y → Φ (k v)) → Φ (rget0 a a i k d) from fun {ys i} => H a
  intro a
  induction a with
  | rnil => intro ys i hs hk; exact hd
  | cat nl nr l r ihl ihr =>
    rintro ys i ⟨y, z, rfl, hl, hr, a, b⟩ hk
    rw [rget_cat]
    split
    · rename_i hlt
      exact ihl a fun v w hw hv => hk v w (by rw [List.getElem?_append_left (by omega)]; exact hw) hv
    · rename_i hlt
      refine ihr b fun v w hw hv => hk v w (by rw [List.getElem?_append_right (by omega), hl]; exact hw) hv
  | _ =>
    intro ys i hs hk
    rw [rget0_leaf rfl]
    split
    · rename_i h0
      obtain ⟨y, rfl⟩ := S.leaf rfl hs
      subst h0
      exact hk _ y rfl hs
    · exact hd

theorem rset_leaf {a : AV} (h : leafB a = true) (i : Nat) (v : AV) (k : AV → OR) (d : OR) : rset a i v k d = if i = 0 then k v else d := by
  cases a <;> first | (simp [leafB] at h; done) | (cases i <;> rfl)
theorem rset_cat (nl nr : Nat) (l r : AV) (i : Nat) (v : AV) (k : AV → OR) (d : OR) :
    rset (.cat nl nr l r) i v k d = if i < nl then rset l i v (fun l' => k (.cat nl nr l' r)) d else rset r (i - nl) v (fun r' => k (.cat nl nr l r')) d := by
  show Bool.rec (motive := fun _ => OR) (rset r (i - nl) v (fun r' => k (.cat nl nr l r')) d) (rset l i v (fun l' => k (.cat nl nr l' r)) d) (Nat.blt i nl) = _
  rw [bool_rec]
  simp

/-- a cell of a rope is set -/
theorem rset_spec {c : Cx} {Φ : OR → Prop} {d : OR} (hd : Φ d) {v : AV} {x : Value} (hv : V c v x) {a : AV} : ∀ {k : AV → OR} {ys : List Value} {i : Nat}, S c a ys →
    (∀ r, i < ys.length → S c r (ys.set i x) → Φ (k r)) → Φ (rset a i v k d) := by
  induction a with
  | rnil => intro k ys i hs hk; exact hd
  | cat nl nr l r ihl ihr =>
    rintro k ys i ⟨y, z, rfl, hl, hr, a, b⟩ hk
    rw [rset_cat]
    split
    · rename_i hlt
      refine ihl a fun r' hi hr' => hk _ (by simp; omega) ?_
      refine ⟨y.set i x, z, ?_, by simpa using hl, hr, hr', b⟩
      rw [List.set_append_left _ _ (by omega)]
    · rename_i hlt
      refine ihr b fun r' hi hr' => hk _ (by simp; omega) ?_
      refine ⟨y, z.set (i - nl) x, ?_, hl, by simpa using hr, a, hr'⟩
      rw [List.set_append_right _ _ (by omega), hl]
  | _ =>
    intro k ys i hs hk
    rw [rset_leaf rfl]
    split
    · rename_i h0
      obtain ⟨y, rfl⟩ := S.leaf rfl hs
      subst h0
      exact hk v (by simp) (by simpa using hv)
    · exact hd

theorem rempty_spec {c : Cx} {a : AV} {ys : List Value} (h : S c a ys) (he : rempty a = true) : ys = [] := by
  cases a <;> first | (simp [rempty] at he; done) | exact h

theorem rmk_spec {c : Cx} {Φ : OR → Prop} {l r : AV} {k : AV → OR} {y z : List Value} (hl : S c l y) (hr : S c r z) (hk : ∀ x, S c x (y ++ z) → Φ (k x)) : Φ (rmk l r k) := by
  unfold rmk
  simp only [bool_rec]
  split
  · rename_i he
    have := rempty_spec hl he
    subst this
    exact hk r hr
  · split
    · rename_i he
      have := rempty_spec hr he
      subst this
      exact hk l (by simpa using hl)
    · rw [forceN_eq, forceN_eq]
      exact hk _ ⟨y, z, rfl, (rsize_spec hl).symm, (rsize_spec hr).symm, hl, hr⟩

theorem rtake0_leaf {a : AV} (h : leafB a = true) (y : AV) (n : Nat) (k : AV → OR) : rtake0 a y n k = if n = 0 then k .rnil else k y := by
  cases a <;> first | (simp [leafB] at h; done) | (cases n <;> rfl)
theorem rtake_cat (nl nr : Nat) (l r y : AV) (n : Nat) (k : AV → OR) :
    rtake0 (.cat nl nr l r) y n k = if n ≤ nl then rtake l n k else if nl + nr ≤ n then k y else rtake r (n - nl) (fun r' => rmk l r' k) := by
  show Bool.rec (motive := fun _ => OR) (Bool.rec (motive := fun _ => OR) (rtake0 r r (n - nl) fun r' => rmk l r' k) (k y) (Nat.ble (nl + nr) n)) (rtake0 l l n k) (Nat.ble n nl) = _
  simp only [bool_rec, rtake]
  simp
theorem rtake_spec {c : Cx} {Φ : OR → Prop} {a : AV} : ∀ {k : AV → OR} {ys : List Value} {n : Nat}, S c a ys → (∀ x, S c x (ys.take n) → Φ (k x)) → Φ (rtake a n k) := by
  unfold rtake
  induction a with
  | rnil => rintro k ys n hs hk; cases hs; exact hk _ (by simp [S])
  | cat nl nr l r ihl ihr =>
    rintro k ys n ⟨y, z, rfl, hl, hr, a, b⟩ hk
    rw [rtake_cat]
    split
    · rename_i h
      refine ihl a fun x hx => hk x ?_
      rw [List.take_append_of_le_length (by omega)]; exact hx
    · split
      · rename_i h1 h2
        refine hk _ ?_
        rw [List.take_of_length_le (by simp; omega)]
        exact ⟨y, z, rfl, hl, hr, a, b⟩
      · rename_i h1 h2
        refine ihr b fun x hx => rmk_spec a hx fun u hu => hk u ?_
        rw [List.take_append, List.take_of_length_le (l := y) (by omega), hl]
        exact hu
  | _ =>
    intro k ys n hs hk
    rw [rtake0_leaf rfl]
    obtain ⟨y, rfl⟩ := S.leaf rfl hs
    split
    · rename_i h0; subst h0; exact hk _ (by simp [S])
    · rename_i h0
      refine hk _ ?_
      rw [List.take_of_length_le (by simp; omega)]; exact hs

theorem rdrop0_leaf {a : AV} (h : leafB a = true) (y : AV) (n : Nat) (k : AV → OR) : rdrop0 a y n k = if n = 0 then k y else k .rnil := by
  cases a <;> first | (simp [leafB] at h; done) | (cases n <;> rfl)
theorem rdrop_cat (nl nr : Nat) (l r y : AV) (n : Nat) (k : AV → OR) :
    rdrop0 (.cat nl nr l r) y n k = if n = 0 then k y else if nl ≤ n then rdrop r (n - nl) k else rdrop l n (fun l' => rmk l' r k) := by
  show Bool.rec (motive := fun _ => OR) (Bool.rec (motive := fun _ => OR) (rdrop0 l l n fun l' => rmk l' r k) (rdrop0 r r (n - nl) k) (Nat.ble nl n)) (k y) (Nat.beq n 0) = _
  simp only [bool_rec, rdrop]
  simp
theorem rdrop_spec {c : Cx} {Φ : OR → Prop} {a : AV} : ∀ {k : AV → OR} {ys : List Value} {n : Nat}, S c a ys → (∀ x, S c x (ys.drop n) → Φ (k x)) → Φ (rdrop a n k) := by
  unfold rdrop
  induction a with
  | rnil => rintro k ys n hs hk; cases hs; exact hk _ (by simp [S])
  | cat nl nr l r ihl ihr =>
    rintro k ys n ⟨y, z, rfl, hl, hr, a, b⟩ hk
    rw [rdrop_cat]
    split
    · rename_i h; subst h; exact hk _ ⟨y, z, by simp, hl, hr, a, b⟩
    · split
      · rename_i h1 h2
        refine ihr b fun x hx => hk x ?_
        rw [List.drop_append, List.drop_of_length_le (by omega), hl]; exact hx
      · rename_i h1 h2
        refine ihl a fun x hx => rmk_spec hx b fun u hu => hk u ?_
        rw [List.drop_append_of_le_length (by omega)]; exact hu
  | _ =>
    intro k ys n hs hk
    rw [rdrop0_leaf rfl]
    obtain ⟨y, rfl⟩ := S.leaf rfl hs
    split
    · rename_i h0; subst h0; exact hk _ (by simpa using hs)
    · rename_i h0
      refine hk _ ?_
      rw [List.drop_of_length_le (by simp; omega)]; rfl

theorem rslice_spec {c : Cx} {Φ : OR → Prop} {d : OR} (hd : Φ d) {a : AV} {k : AV → OR} {ys : List Value} {lo n : Nat} (hs : S c a ys)
    (hk : ∀ x, lo + n ≤ ys.length → S c x ((ys.drop lo).take n) → Φ (k x)) : Φ (rslice a lo n k d) := by
  unfold rslice
  rw [bool_rec]
  split
  · rename_i h
    have h' : lo + n ≤ ys.length := by rw [← rsize_spec hs]; simpa using h
    exact rdrop_spec hs fun x hx => rtake_spec hx fun u hu => hk u h' hu
  · exact hd

theorem rover_spec {c : Cx} {Φ : OR → Prop} {d : OR} (hd : Φ d) {a y : AV} {k : AV → OR} {ys zs : List Value} {lo : Nat} (hs : S c a ys) (hy : S c y zs)
    (hk : ∀ x, lo + zs.length ≤ ys.length → S c x (ys.take lo ++ (zs ++ ys.drop (lo + zs.length))) → Φ (k x)) : Φ (rover a lo y k d) := by
  unfold rover
  rw [bool_rec]
  have e := rsize_spec hy
  split
  · rename_i h
    have h' : lo + zs.length ≤ ys.length := by rw [← rsize_spec hs, ← e]; simpa using h
    refine rtake_spec hs fun p hp => rdrop_spec hs fun q hq => rmk_spec hy hq fun u hu => rmk_spec hp hu fun x hx => hk x h' ?_
    have e2 : Nat.add lo (rsize y) = lo + zs.length := by rw [e]; rfl
    rw [e2] at hx
    exact hx
  · exact hd

/-- a rope as a list -/
def SL (c : Cx) : List AV → List Value → Prop
  | [], ys => ys = []
  | v :: l, ys => ∃ y zs, ys = y :: zs ∧ V c v y ∧ SL c l zs

theorem SL.mono {c d : Cx} (h : c.Le d) : ∀ {l : List AV} {ys : List Value}, SL c l ys → SL d l ys
  | [], _, hs => hs
  | _ :: _, _, ⟨y, zs, e, hv, hs⟩ => ⟨y, zs, e, hv.mono h, SL.mono h hs⟩
theorem SL.length {c : Cx} : ∀ {l : List AV} {ys : List Value}, SL c l ys → l.length = ys.length
  | [], _, hs => by cases hs; rfl
  | _ :: _, _, ⟨y, zs, e, hv, hs⟩ => by subst e; simp [SL.length hs]
theorem SL.append {c : Cx} : ∀ {l m : List AV} {ys zs : List Value}, SL c l ys → SL c m zs → SL c (l ++ m) (ys ++ zs)
  | [], _, _, _, h, h' => by cases h; exact h'
  | _ :: _, _, _, _, ⟨y, w, e, hv, hs⟩, h' => by subst e; exact ⟨y, _, rfl, hv, SL.append hs h'⟩
theorem SL.get {c : Cx} : ∀ {l : List AV} {ys : List Value} (i : Nat) {v : AV}, SL c l ys → l[i]? = some v → ∃ y, ys[i]? = some y ∧ V c v y
  | [], _, _, _, _, hi => by simp at hi
  | a :: l, _, 0, v, ⟨y, zs, e, hv, hs⟩, hi => by subst e; simp at hi; subst hi; exact ⟨y, rfl, hv⟩
  | a :: l, _, i + 1, v, ⟨y, zs, e, hv, hs⟩, hi => by subst e; simp at hi; simpa using SL.get i hs hi

theorem rlist_leaf {a : AV} (h : leafB a = true) (y : AV) (acc : List AV) : rlist a y acc = y :: acc := by
  cases a <;> first | (simp [leafB] at h; done) | rfl
theorem rlist_spec {c : Cx} {a : AV} : ∀ {ys zs : List Value} {acc : List AV}, S c a ys → SL c acc zs → SL c (rlist a a acc) (ys ++ zs) := by
  induction a with
  | rnil => rintro ys zs acc hs ha; cases hs; exact ha
  | cat nl nr l r ihl ihr =>
    rintro ys zs acc ⟨y, z, rfl, hl, hr, a, b⟩ ha
    have := ihl a (ihr b ha)
    rw [List.append_assoc]; exact this
  | _ =>
    intro ys zs acc hs ha
    rw [rlist_leaf rfl]
    obtain ⟨y, rfl⟩ := S.leaf rfl hs
    exact ⟨y, zs, rfl, hs, ha⟩

/-! ### ropes of the text -/
theorem rsizeP_spec {c : Cx} {a : AV} {ys : List Value} (h : S c a ys) : rmkP.rsizeP a = ys.length := by
  cases a with
  | rnil => cases h; rfl
  | cat nl nr l r => obtain ⟨y, z, rfl, hl, hr, -, -⟩ := h; simp [rmkP.rsizeP, hl, hr]
  | _ => obtain ⟨y, rfl⟩ := S.leaf rfl h; rfl
theorem rmkP_spec {c : Cx} {l r : AV} {y z : List Value} (hl : S c l y) (hr : S c r z) : S c (rmkP l r) (y ++ z) := by
  unfold rmkP
  split
  · cases hl; exact hr
  · cases hr; simpa using hl
  · exact ⟨y, z, rfl, (rsizeP_spec hl).symm, (rsizeP_spec hr).symm, hl, hr⟩
/-- ropes, one behind the other -/
def SR (c : Cx) : List AV → List Value → Prop
  | [], ys => ys = []
  | v :: l, ys => ∃ y zs, ys = y ++ zs ∧ S c v y ∧ SR c l zs
theorem pairUp_spec {c : Cx} : ∀ {l : List AV} {ys : List Value}, SR c l ys → SR c (pairUp l) ys
  | [], _, h => h
  | [a], _, h => h
  | a :: b :: l, _, ⟨y, _, e, ha, z, w, e', hb, hl⟩ => by
    subst e e'
    exact ⟨y ++ z, w, by simp, rmkP_spec ha hb, pairUp_spec hl⟩
theorem ofRs_spec {c : Cx} : ∀ (n : Nat) {l : List AV} {ys : List Value}, SR c l ys → l.length ≤ 2 ^ (n - 1) → 0 < n → S c (ofRs n l) ys
  | 0, _, _, _, _, h => absurd h (by simp)
  | n + 1, [], _, h, _, _ => h
  | n + 1, [a], _, ⟨y, zs, e, ha, h⟩, _, _ => by cases h; subst e; simpa [ofRs] using ha
  | 0 + 1, a :: b :: l, _, h, hn, _ => by simp at hn
  | n + 1 + 1, a :: b :: l, _, h, hn, _ => by
    rw [ofRs]
    · refine ofRs_spec (n + 1) (pairUp_spec h) ?_ (by omega)
      have : ∀ l : List AV, 2 * (pairUp l).length ≤ l.length + 1 := by
        intro l
        induction l using pairUp.induct with
        | case1 => simp [pairUp]
        | case2 a => simp [pairUp]
        | case3 a b l ih => simp [pairUp]; omega
      have h1 := this (a :: b :: l)
      simp only [Nat.add_sub_cancel] at *
      have : 2 ^ (n + 1) = 2 * 2 ^ n := by rw [Nat.pow_succ]; omega
      omega
    · simp
    · simp
theorem SR.of_SL {c : Cx} : ∀ {l : List AV} {ys : List Value}, SL c l ys → SR c l ys
  | [], _, h => h
  | _ :: _, _, ⟨y, zs, e, hv, hs⟩ => by subst e; exact ⟨[y], zs, rfl, hv, SR.of_SL hs⟩

end Go.Eng
/- The engine's heap, and what it stands for. -/
namespace Go.Eng

/-! ### tries -/
def sel (x : D4) (a b c d : AH) : AH := match x with | .a => a | .b => b | .c => c | .d => d
theorem tget_nil (t : AH) : tget [] t = t := rfl
theorem tget_n (x : D4) (p : List D4) (a b c d : AH) : tget (x :: p) (.n a b c d) = tget p (sel x a b c d) := by cases x <;> rfl
def isN : AH → Bool | .n _ _ _ _ => true | _ => false
theorem tget_other {t : AH} (h : isN t = false) (x : D4) (p : List D4) : tget (x :: p) t = .e := by cases t <;> first | rfl | simp [isN] at h
theorem tget_e : ∀ p, tget p .e = .e
  | [] => rfl
  | _ :: _ => rfl

theorem tset_eq : ∀ (p : List D4) (t v : AH) (k : AH → OR), tset p t v k = k (tsetP p t v)
  | [], _, _, _ => rfl
  | x :: p, t, v, k => by
    cases t <;> cases x <;> simp only [tsetP] <;> exact tset_eq p _ v _
theorem tsetR_eq : ∀ (p : List D4) (t v : AH) (k : AH → Res), tsetR p t v k = k (tsetP p t v)
  | [], _, _, _ => rfl
  | x :: p, t, v, k => by
    cases t <;> cases x <;> simp only [tsetP] <;> exact tsetR_eq p _ v _
theorem tsetC_eq : ∀ (p : List D4) (t v : AH) (k : AH → CRes), tsetC p t v k = k (tsetP p t v)
  | [], _, _, _ => rfl
  | x :: p, t, v, k => by
    cases t <;> cases x <;> simp only [tsetP] <;> exact tsetC_eq p _ v _

theorem tsetP_other {t : AH} (h : isN t = false) (x : D4) (p : List D4) (v : AH) : tsetP (x :: p) t v =
    .n (if x = .a then tsetP p .e v else .e) (if x = .b then tsetP p .e v else .e) (if x = .c then tsetP p .e v else .e) (if x = .d then tsetP p .e v else .e) := by
  cases t <;> first | (simp [isN] at h; done) | (cases x <;> rfl)

theorem tget_tsetP : ∀ (p q : List D4) (t v : AH), p.length = q.length → tget q (tsetP p t v) = if q = p then v else tget q t
  | [], [], _, _, _ => by simp [tsetP, tget_nil]
  | x :: p, y :: q, t, v, h => by
    have h' : p.length = q.length := by simpa using h
    have ih := fun t => tget_tsetP p q t v h'
    by_cases hn : isN t = true
    · cases t <;> first | (simp [isN] at hn; done) | skip
      rename_i a b c d
      cases x <;> cases y <;> simp only [tsetP, tget_n, sel, List.cons.injEq, true_and, false_and, if_false, reduceCtorEq] <;> exact ih _
    · have hn' : isN t = false := by simpa using hn
      rw [tsetP_other hn', tget_other hn', tget_n]
      have e := ih .e
      rw [tget_e] at e
      cases x <;> cases y <;> simp only [sel, List.cons.injEq, true_and, false_and, if_false, if_true, reduceCtorEq] <;> first
        | exact e
        | exact tget_e q

theorem digits_length : ∀ (k i : Nat), (digits k i).length = k
  | 0, _ => rfl
  | k + 1, i => by simp [digits, digits_length k]
theorem dig_inj {i j : Nat} (hi : i < 4) (hj : j < 4) (h : dig i = dig j) : i = j := by
  have H : ∀ i, i < 4 → ∀ j, j < 4 → dig i = dig j → i = j := by decide
  exact H i hi j hj h
theorem digits_inj : ∀ (k i j : Nat), i < 4 ^ k → j < 4 ^ k → digits k i = digits k j → i = j
  | 0, i, j, hi, hj, _ => by simp at hi hj; omega
  | k + 1, i, j, hi, hj, h => by
    simp only [digits, List.cons.injEq] at h
    have e1 : Nat.land i 3 = i % 4 := Nat.and_two_pow_sub_one_eq_mod i 2
    have e2 : Nat.land j 3 = j % 4 := Nat.and_two_pow_sub_one_eq_mod j 2
    have s1 : Nat.shiftRight i 2 = i / 4 := Nat.shiftRight_eq_div_pow i 2
    have s2 : Nat.shiftRight j 2 = j / 4 := Nat.shiftRight_eq_div_pow j 2
    rw [e1, e2, s1, s2] at h
    have hp : 4 ^ (k + 1) = 4 ^ k * 4 := Nat.pow_succ 4 k
    have := digits_inj k (i / 4) (j / 4) (by omega) (by omega) h.2
    have := dig_inj (Nat.mod_lt _ (by omega)) (Nat.mod_lt _ (by omega)) h.1
    omega

/-! ### blocks -/
def real : AH → Bool
  | .cells _ _ _ => true
  | .map _ _ => true
  | .miter _ _ _ => true
  | .siter _ _ => true
  | .loop _ _ _ _ _ _ _ _ => true
  | .dfr _ => true
  | _ => false

/-- temporaries: those of the mask stand as told -/
def TM (c : Cx) (M d : Nat) (tm : AH) (tmps : Array Value) : Prop :=
  ∀ t, bit M t = true → t < 4 ^ d ∧ t < tmps.size ∧ V c (valOf (tget (digits d t) tm)) (tmps.getD t undef)

/-- entries of a map, in some order -/
def keyAV : AV → Bool
  | .int _ _ => true
  | .str _ => true
  | .bool _ => true
  | _ => false
def ES (c : Cx) : List (AV × AV) → List MapEntry → Prop
  | [], l => l = []
  | (a, b) :: es, l => ∃ e l', l.Perm (e :: l') ∧ keyAV a = true ∧ V c a e.key ∧ V c b e.val ∧ ES c es l'

def plainKey : Value → Bool
  | .int _ _ => true
  | .string _ => true
  | .bool _ => true
  | _ => false

/-- the concrete entries of a map: keys plain and apart, births apart and below the clock -/
structure MapOK (ents : Array MapEntry) (clock : Nat) : Prop where
  plain : ∀ e ∈ ents, plainKey e.key = true
  keys : ents.toList.Pairwise fun a b => a.key ≠ b.key
  births : ents.toList.Pairwise fun a b => a.born ≠ b.born
  below : ∀ e ∈ ents, e.born < clock

/-- an iterator: what it has seen, held against the entries as long as none was put in -/
def IterOK (c : Cx) (w : World) (Bm clk : Nat) (seen : List AV) (arr : Array Nat) : Prop :=
  ∃ ents clock, w.heap[Bm]? = some (.map ents clock) ∧ clk ≤ clock ∧ (clock = clk →
    arr.size = seen.length ∧ ∀ i s, seen[i]? = some s → keyAV s = true ∧ ∃ st, arr[arr.size - 1 - i]? = some st ∧ ∀ e ∈ ents, (e.born = st ↔ V c s e.key))

/-- where a block begins; one of the type without rows is whole -/
def RowB (E : Env) (w : World) (e B k : Nat) : Prop := k % E.P.cellsOf e = 0 ∧ (e = E.tbl → k = 0 ∧ ∀ cs fr, w.heap[B]? = some (.cells cs e fr) → cs.size = E.P.cellsOf e)
theorem RowB.of_eq {E : Env} {w w' : World} {e B k : Nat} (hB : w'.heap[B]? = w.heap[B]?) (h : RowB E w e B k) : RowB E w' e B k := ⟨h.1, fun he => ⟨(h.2 he).1, fun cs fr hc => (h.2 he).2 cs fr (hB.symm.trans hc)⟩⟩
theorem RowB.upd {E : Env} {w w' : World} {e B k : Nat} {cs cs' : Array Value} {fr fr' : Nat × Nat} (h : RowB E w e B k) (hc : w.heap[B]? = some (.cells cs e fr)) (hc' : w'.heap[B]? = some (.cells cs' e fr')) (hs : cs'.size = cs.size) : RowB E w' e B k :=
  ⟨h.1, fun he => ⟨(h.2 he).1, fun cs2 fr2 h2 => by rw [hc'] at h2; cases h2; rw [hs]; exact (h.2 he).2 _ _ hc⟩⟩
theorem RowB.row {E : Env} {w : World} {e B k : Nat} (h : k % E.P.cellsOf e = 0) (he : e ≠ E.tbl) : RowB E w e B k := ⟨h, fun h => absurd h he⟩

def Bk (E : Env) (c : Cx) (w : World) (x : AH) (B k : Nat) : Prop := match x with
  | .cells fz e r => RowB E w e B k ∧ ∃ cs lo hi, w.heap[B]? = some (.cells cs e (lo, hi)) ∧ (∀ y ∈ cs.toList, y.oneCell' = true) ∧ (fz = false → lo = hi ∨ cs.size ≤ lo) ∧
      (isU8 E.P e = false → lo = hi) ∧ ∃ pre ys post, cs.toList = pre ++ (ys ++ post) ∧ pre.length = k ∧ S c r ys
  | .map clk es => k = 0 ∧ ∃ ents, w.heap[B]? = some (.map ents clk) ∧ MapOK ents clk ∧ ES c es ents.toList
  | .miter m clk seen => k = 0 ∧ match m with
    | none => ∃ a b d, w.heap[B]? = some (.mapIter none a b d)
    | some r => ∃ Bm arr, c.rho r = some (Bm, 0) ∧ w.heap[B]? = some (.mapIter (some Bm) clk arr clk) ∧ IterOK c w Bm clk seen arr
  | .siter s pos => k = 0 ∧ ∃ str : ByteArray, w.heap[B]? = some (.stringIter str pos) ∧ (str.data.toList.map UInt8.toNat).drop pos = s
  | .loop st pend fn tm ps a b df => k = 0 ∧ ∃ tmps D, c.rho df = some (D, 0) ∧ TM c (fM E.P fn) (fD E.P fn) tm tmps ∧ fT E.P fn ≤ tmps.size ∧
      w.heap[B]? = some (.loop { state := st, pending := pend, fn := fn, tmps := tmps, params := ps.toArray, assign := a, body := b, defers := D })
  | .dfr b => k = 0 ∧ w.heap[B]? = some (.deferred (if b then some [] else none))
  | _ => True

structure Hs (E : Env) (c : Cx) (H : Heap) (w : World) : Prop where
  limD : E.lim = 4 ^ E.D
  N : c.N ≤ w.heap.size
  sig : ∀ i, (c.sig i).oneCell' = true
  next : H.next ≤ E.lim
  dom : ∀ b, b < E.lim → real (hget E H b) = true → b < H.next
  rlt : ∀ b x, c.rho b = some x → b < H.next
  blk : ∀ b B k, b < H.next → real (hget E H b) = true → c.rho b = some (B, k) → Bk E c w (hget E H b) B k
  inj : ∀ b b' B k k', b < H.next → b' < H.next → real (hget E H b) = true → real (hget E H b') = true → c.rho b = some (B, k) → c.rho b' = some (B, k') → b = b'
  base : ∀ b B k, c.rho b = some (B, k) → c.N ≤ B ∧ B < w.heap.size
  cap : ∀ j lo hi, capLook j H.caps = some (lo, hi) → ∃ g, c.gam j = some g ∧ lo ≤ g ∧ ∀ h, hi = some h → g ≤ h
  glt : ∀ j g, c.gam j = some g → j < H.ncap
  olt : ∀ j g, c.own j = some g → j < H.ncap
  own : ∀ j g b sz, c.gam j = some g → c.own j = some (b, sz) → ∃ B k cs e fr, c.rho b = some (B, k) ∧ w.heap[B]? = some (.cells cs e fr) ∧ sz = E.P.cellsOf e ∧ k + g * sz ≤ cs.size

/-- the concrete blocks that stand for something -/
def Im (c : Cx) (B : Nat) : Prop := ∃ b k, c.rho b = some (B, k)

structure Ext (E : Env) (c : Cx) (H : Heap) (w : World) (c' : Cx) (H' : Heap) (w' : World) : Prop where
  le : c.Le c'
  size : w.heap.size ≤ w'.heap.size
  keep : ∀ B, B < w.heap.size → ¬ Im c B → w'.heap[B]? = w.heap[B]?
  im : ∀ B, B < w.heap.size → Im c' B → Im c B
  tape : w'.tape = w.tape
  os : w'.os = w.os
  output : w'.output = w.output
  next : H.next ≤ H'.next
  ncap : H.ncap ≤ H'.ncap
  rhoOld : ∀ b, b < H.next → c'.rho b = c.rho b
  log : ∃ pre, H'.log = pre ++ H.log ∧ ∀ b, b < E.lim → b ∉ pre → hget E H' b = hget E H b

theorem Ext.refl (E : Env) (c : Cx) (H : Heap) (w : World) : Ext E c H w c H w :=
  ⟨.refl c, Nat.le_refl _, fun _ _ _ => rfl, fun _ _ h => h, rfl, rfl, rfl, Nat.le_refl _, Nat.le_refl _, fun _ _ => rfl, [], rfl, fun _ _ _ => rfl⟩
theorem Ext.trans {E : Env} {c c' c'' : Cx} {H H' H'' : Heap} {w w' w'' : World} (h : Ext E c H w c' H' w') (h' : Ext E c' H' w' c'' H'' w'') : Ext E c H w c'' H'' w'' := by
  obtain ⟨p, hp, hq⟩ := h.log
  obtain ⟨p', hp', hq'⟩ := h'.log
  exact ⟨h.le.trans h'.le, Nat.le_trans h.size h'.size,
   fun B hB hn => (h'.keep B (Nat.lt_of_lt_of_le hB h.size) fun hi => hn (h.im B hB hi)).trans (h.keep B hB hn),
   fun B hB hi => h.im B hB (h'.im B (Nat.lt_of_lt_of_le hB h.size) hi), h'.tape.trans h.tape, h'.os.trans h.os, h'.output.trans h.output,
   Nat.le_trans h.next h'.next, Nat.le_trans h.ncap h'.ncap, fun b hb => (h'.rhoOld b (Nat.lt_of_lt_of_le hb h.next)).trans (h.rhoOld b hb), p' ++ p, by rw [hp', hp, List.append_assoc], fun b hb hn => by
     rw [List.mem_append, not_or] at hn
     rw [hq' b hb hn.1, hq b hb hn.2]⟩

/-- Hs, and what came of it -/
def Stp (E : Env) (c : Cx) (H : Heap) (w : World) (c' : Cx) (H' : Heap) (w' : World) : Prop := Hs E c' H' w' ∧ Ext E c H w c' H' w'

theorem Stp.refl {E : Env} {c : Cx} {H : Heap} {w : World} (h : Hs E c H w) : Stp E c H w c H w := ⟨h, .refl ..⟩
theorem Stp.trans {E : Env} {c c' c'' : Cx} {H H' H'' : Heap} {w w' w'' : World} (h : Stp E c H w c' H' w') (h' : Stp E c' H' w' c'' H'' w'') : Stp E c H w c'' H'' w'' :=
  ⟨h'.1, h.2.trans h'.2⟩

/-! ### how blocks stand -/
theorem pth_length (E : Env) (b : Nat) : (pth E b).length = E.D := digits_length _ _
theorem pth_inj {E : Env} (hl : E.lim = 4 ^ E.D) {b b' : Nat} (h : b < E.lim) (h' : b' < E.lim) (e : pth E b = pth E b') : b = b' :=
  digits_inj _ _ _ (hl ▸ h) (hl ▸ h') e

def putH (E : Env) (H : Heap) (b : Nat) (x : AH) : Heap := { H with t := tsetP (pth E b) H.t x, log := b :: H.log }
theorem hset_eq (E : Env) (H : Heap) (b : Nat) (x : AH) (k : Heap → OR) : hset E H b x k = k (putH E H b x) := by
  unfold hset putH
  rw [tset_eq]
theorem hget_putH {E : Env} (hl : E.lim = 4 ^ E.D) (H : Heap) {b b' : Nat} (h : b < E.lim) (h' : b' < E.lim) (x : AH) :
    hget E (putH E H b x) b' = if b' = b then x else hget E H b' := by
  unfold hget putH
  simp only
  rw [tget_tsetP _ _ _ _ (by rw [pth_length, pth_length])]
  by_cases e : b' = b
  · subst e; simp
  · rw [if_neg e, if_neg fun h2 => e (pth_inj hl h' h h2)]

theorem ES.mono {c d : Cx} (h : c.Le d) : ∀ {es : List (AV × AV)} {l : List MapEntry}, ES c es l → ES d es l
  | [], _, hs => hs
  | (_, _) :: _, _, ⟨e, l', p, ka, a, b, hs⟩ => ⟨e, l', p, ka, a.mono h, b.mono h, ES.mono h hs⟩
theorem TM.mono {c c' : Cx} (h : c.Le c') {M d : Nat} {tm : AH} {tmps : Array Value} (ht : TM c M d tm tmps) : TM c' M d tm tmps :=
  fun t hb => ⟨(ht t hb).1, (ht t hb).2.1, (ht t hb).2.2.mono h⟩

/-- keys as the engine reads them determine the value -/
theorem V.key_mono {c d : Cx} {s : AV} (hk : keyAV s = true) (x : Value) : V c s x ↔ V d s x := by
  cases s <;> first | (simp [keyAV] at hk; done) | exact Iff.rfl

/-- what may become of a map while iterators stand over it -/
def MapMono (w w' : World) (B : Nat) : Prop := ∀ ents clock, w.heap[B]? = some (.map ents clock) →
  ∃ ents' clock', w'.heap[B]? = some (.map ents' clock') ∧ clock ≤ clock' ∧ (clock' = clock → ∀ e' ∈ ents', ∃ e ∈ ents, e.born = e'.born ∧ e.key = e'.key)
theorem MapMono.of_eq {w w' : World} {B : Nat} (h : w'.heap[B]? = w.heap[B]?) : MapMono w w' B :=
  fun ents clock he => ⟨ents, clock, h.trans he, Nat.le_refl _, fun _ e he' => ⟨e, he', rfl, rfl⟩⟩

/-- a row stays as long as it is -/
def RowKeep (w w' : World) (B : Nat) : Prop := ∀ cs e fr, w.heap[B]? = some (.cells cs e fr) → ∃ cs' fr', w'.heap[B]? = some (.cells cs' e fr') ∧ cs'.size = cs.size
theorem RowKeep.of_eq {w w' : World} {B : Nat} (h : w'.heap[B]? = w.heap[B]?) : RowKeep w w' B := fun cs _ fr he => ⟨cs, fr, h.trans he, rfl⟩
theorem RowKeep.not_cells {w w' : World} {B : Nat} (h : ∀ cs e fr, w.heap[B]? ≠ some (.cells cs e fr)) : RowKeep w w' B := fun cs e fr he => absurd he (h cs e fr)
theorem own_mono {E : Env} {c c' : Cx} {w w' : World} (hle : c.Le c') (hk : ∀ B, RowKeep w w' B) {g b sz : Nat}
    (h : ∃ B k cs e fr, c.rho b = some (B, k) ∧ w.heap[B]? = some (.cells cs e fr) ∧ sz = E.P.cellsOf e ∧ k + g * sz ≤ cs.size) :
    ∃ B k cs e fr, c'.rho b = some (B, k) ∧ w'.heap[B]? = some (.cells cs e fr) ∧ sz = E.P.cellsOf e ∧ k + g * sz ≤ cs.size := by
  obtain ⟨B, k, cs, e, fr, h1, h2, h3, h4⟩ := h
  obtain ⟨cs', fr', h5, h6⟩ := hk B cs e fr h2
  exact ⟨B, k, cs', e, fr', hle.rho _ _ h1, h5, h3, by rw [h6]; exact h4⟩

theorem IterOK.mono {c c' : Cx} {w w' : World} {Bm clk : Nat} {seen : List AV} {arr : Array Nat} (hm : MapMono w w' Bm) (h : IterOK c w Bm clk seen arr) :
    IterOK c' w' Bm clk seen arr := by
  obtain ⟨ents, clock, he, hle, hi⟩ := h
  obtain ⟨ents', clock', he', hle', hm'⟩ := hm ents clock he
  refine ⟨ents', clock', he', Nat.le_trans hle hle', fun hc => ?_⟩
  have hcc : clock = clk := by omega
  obtain ⟨hsz, hall⟩ := hi hcc
  refine ⟨hsz, fun i s hs => ?_⟩
  obtain ⟨hk, st, hst, hall'⟩ := hall i s hs
  refine ⟨hk, st, hst, fun e' he2 => ?_⟩
  obtain ⟨e, hem, hb, hkey⟩ := hm' (by omega) e' he2
  rw [← hb, ← hkey]
  exact (hall' e hem).trans (V.key_mono hk _)

theorem Bk.mono {E : Env} {c c' : Cx} {w w' : World} {x : AH} {B k : Nat} (hle : c.Le c') (hB : w'.heap[B]? = w.heap[B]?) (hm : ∀ Bm, MapMono w w' Bm)
    (h : Bk E c w x B k) : Bk E c' w' x B k := by
  cases x with
  | cells fz e r =>
    obtain ⟨h0, cs, lo, hi, h1, h2, h2', h2'', pre, ys, post, h3, h4, h5⟩ := h
    exact ⟨h0.of_eq hB, cs, lo, hi, hB.trans h1, h2, h2', h2'', pre, ys, post, h3, h4, h5.mono hle⟩
  | map clk es =>
    obtain ⟨h0, ents, h1, h2, h3⟩ := h
    exact ⟨h0, ents, hB.trans h1, h2, h3.mono hle⟩
  | miter m clk seen =>
    obtain ⟨h0, h⟩ := h
    refine ⟨h0, ?_⟩
    cases m with
    | none => obtain ⟨a, b, d, h1⟩ := h; exact ⟨a, b, d, hB.trans h1⟩
    | some r =>
      obtain ⟨Bm, arr, h1, h2, h3⟩ := h
      exact ⟨Bm, arr, hle.rho _ _ h1, hB.trans h2, h3.mono (hm Bm)⟩
  | siter s pos => obtain ⟨h0, str, h1, h2⟩ := h; exact ⟨h0, str, hB.trans h1, h2⟩
  | loop st pend fn tm ps a b df =>
    obtain ⟨h0, tmps, D, h1, h2, h2', h3⟩ := h
    exact ⟨h0, tmps, D, hle.rho _ _ h1, h2.mono hle, h2', hB.trans h3⟩
  | dfr b => obtain ⟨h0, h1⟩ := h; exact ⟨h0, hB.trans h1⟩
  | _ => trivial

/-! ### what may be done to a heap -/
theorem Hs.lim {E : Env} {c : Cx} {H : Heap} {w : World} (h : Hs E c H w) {b : Nat} (hb : b < H.next) : b < E.lim := Nat.lt_of_lt_of_le hb h.next

/-- one block is laid anew -/
theorem Hs.upd {E : Env} {c : Cx} {H : Heap} {w w' : World} (h : Hs E c H w) {b B k : Nat} {x : AH} (hb : b < H.next) (hr : real (hget E H b) = true)
    (hrho : c.rho b = some (B, k)) (hsz : w'.heap.size = w.heap.size) (hoth : ∀ B', B' ≠ B → w'.heap[B']? = w.heap[B']?) (hm : MapMono w w' B) (hrk : RowKeep w w' B)
    (ht : w'.tape = w.tape) (hos : w'.os = w.os) (hout : w'.output = w.output) (hx : real x = true → Bk E c w' x B k) :
    Stp E c H w c (putH E H b x) w' := by
  have hbl := h.lim hb
  have hmm : ∀ Bm, MapMono w w' Bm := fun Bm => by
    by_cases e : Bm = B
    · subst e; exact hm
    · exact .of_eq (hoth Bm e)
  have hrkk : ∀ Bm, RowKeep w w' Bm := fun Bm => by
    by_cases e : Bm = B
    · subst e; exact hrk
    · exact .of_eq (hoth Bm e)
  have hg : ∀ b', b' < E.lim → hget E (putH E H b x) b' = if b' = b then x else hget E H b' := fun b' hb' => hget_putH h.limD H hbl hb' x
  have hreal : ∀ b', b' < E.lim → real (hget E (putH E H b x) b') = true → real (hget E H b') = true := by
    intro b' hb' hr'
    rw [hg b' hb'] at hr'
    split at hr'
    · rename_i e; subst e; exact hr
    · exact hr'
  refine ⟨⟨h.limD, by rw [hsz]; exact h.N, h.sig, h.next, fun b' hb' hr' => h.dom b' hb' (hreal b' hb' hr'), h.rlt, ?_, ?_, ?_, h.cap, h.glt, h.olt, fun j g b sz h1 h2 => own_mono (.refl c) hrkk (h.own j g b sz h1 h2)⟩, ⟨.refl c, by omega, ?_, fun _ _ h => h, ht, hos, hout, Nat.le_refl _, Nat.le_refl _, fun _ _ => rfl, [b], rfl, fun b' hb' hn => ?_⟩⟩
  · intro b' B' k' hb' hr' h1
    have hb'l := h.lim hb'
    rw [hg b' hb'l] at hr' ⊢
    split at hr'
    · rename_i e; subst e; rw [if_pos rfl]; rw [hrho] at h1; cases h1; exact hx hr'
    · rename_i e
      rw [if_neg e]
      have h2 := h.blk b' B' k' hb' hr' h1
      refine h2.mono (.refl c) (hoth B' fun e2 => e ?_) hmm
      subst e2
      exact h.inj b' b B' k' k hb' hb hr' hr h1 hrho
  · intro b1 b2 B1 k1 k2 hb1 hb2 hr1 hr2
    exact h.inj b1 b2 B1 k1 k2 hb1 hb2 (hreal b1 (h.lim hb1) hr1) (hreal b2 (h.lim hb2) hr2)
  · intro b' B' k' hr'
    rw [hsz]; exact h.base b' B' k' hr'
  · intro B' hB' hn
    exact hoth B' fun e => hn ⟨b, k, e ▸ hrho⟩
  · rw [hg b' hb', if_neg (by simpa using hn)]

def Cx.at (c : Cx) (b B k : Nat) : Cx := { c with rho := fun x => if x = b then some (B, k) else c.rho x }
def newH (E : Env) (H : Heap) (x : AH) : Heap := { H with t := tsetP (pth E H.next) H.t x, next := H.next + 1, log := H.next :: H.log }
theorem hnew_eq (E : Env) (H : Heap) (x : AH) (k : Nat → Heap → OR) : hnew E H x k = if H.next < E.lim then k H.next (newH E H x) else .fail 10 := by
  unfold hnew newH
  rw [bool_rec, tset_eq, forceN_eq]
  simp
theorem Cx.at_le {c : Cx} {b B k : Nat} (h : c.rho b = none) : c.Le (c.at b B k) :=
  ⟨rfl, rfl, fun b' x hx => by
    simp only [Cx.at]
    split
    · rename_i e; subst e; rw [h] at hx; cases hx
    · exact hx, fun _ _ h => h, fun _ _ h => h⟩
theorem Hs.rho_next {E : Env} {c : Cx} {H : Heap} {w : World} (h : Hs E c H w) {b : Nat} (hb : H.next ≤ b) : c.rho b = none := by
  cases e : c.rho b with
  | none => rfl
  | some x => have := h.rlt b x e; omega
theorem hget_newH {E : Env} (hl : E.lim = 4 ^ E.D) (H : Heap) {b' : Nat} (h : H.next < E.lim) (h' : b' < E.lim) (x : AH) :
    hget E (newH E H x) b' = if b' = H.next then x else hget E H b' := hget_putH hl H h h' x

/-- a new block -/
theorem Hs.new {E : Env} {c : Cx} {H : Heap} {w w' : World} (h : Hs E c H w) {x : AH} (hlim : H.next < E.lim)
    (hsz : w.heap.size < w'.heap.size) (hoth : ∀ B', B' < w.heap.size → w'.heap[B']? = w.heap[B']?)
    (ht : w'.tape = w.tape) (hos : w'.os = w.os) (hout : w'.output = w.output) (hx : Bk E (c.at H.next w.heap.size 0) w' x w.heap.size 0) :
    Stp E c H w (c.at H.next w.heap.size 0) (newH E H x) w' := by
  have hrn := h.rho_next (Nat.le_refl H.next)
  have hle : c.Le (c.at H.next w.heap.size 0) := Cx.at_le hrn
  have hmm : ∀ Bm, MapMono w w' Bm := fun Bm ents clock he => (MapMono.of_eq (hoth Bm (by
    have := (Array.getElem?_eq_some_iff.1 he).1; exact this))) ents clock he
  have hrkk : ∀ Bm, RowKeep w w' Bm := fun Bm cs e fr he => (RowKeep.of_eq (hoth Bm (by
    have := (Array.getElem?_eq_some_iff.1 he).1; exact this))) cs e fr he
  have hg : ∀ b', b' < E.lim → hget E (newH E H x) b' = if b' = H.next then x else hget E H b' := fun b' hb' => hget_newH h.limD H hlim hb' x
  have hold : ∀ b', b' < H.next → hget E (newH E H x) b' = hget E H b' := fun b' hb' => by
    rw [hg b' (h.lim hb'), if_neg (by omega)]
  have hat : ∀ b', b' ≠ H.next → (c.at H.next w.heap.size 0).rho b' = c.rho b' := fun b' e => by simp [Cx.at, e]
  have hatn : (c.at H.next w.heap.size 0).rho H.next = some (w.heap.size, 0) := by simp [Cx.at]
  have hnx : (newH E H x).next = H.next + 1 := rfl
  have hN := h.N
  refine ⟨⟨h.limD, Nat.le_trans h.N (by omega), h.sig, by rw [hnx]; omega, ?_, ?_, ?_, ?_, ?_, h.cap, h.glt, h.olt, fun j g b sz h1 h2 => own_mono hle hrkk (h.own j g b sz h1 h2)⟩, ⟨hle, by omega, ?_, ?_, ht, hos, hout, by rw [hnx]; omega, Nat.le_refl _, fun b hb => hat b (by omega), [H.next], rfl, fun b' hb' hn => by rw [hg b' hb', if_neg (by simpa using hn)]⟩⟩
  · intro b' hb' hr'
    rw [hg b' hb'] at hr'
    rw [hnx]
    split at hr'
    · omega
    · have := h.dom b' hb' hr'; omega
  · intro b' x' hx'
    rw [hnx]
    by_cases e : b' = H.next
    · omega
    · rw [hat b' e] at hx'; have := h.rlt b' x' hx'; omega
  · intro b' B' k' hb' hr' h1
    rw [hnx] at hb'
    by_cases e : b' = H.next
    · subst e
      rw [hg _ hlim, if_pos rfl] 
      rw [hatn] at h1; cases h1
      exact hx
    · have hlt : b' < H.next := by omega
      rw [hold b' hlt] at hr' ⊢
      rw [hat b' e] at h1
      exact (h.blk b' B' k' hlt hr' h1).mono hle (hoth B' (h.base b' B' k' h1).2) hmm
  · intro b1 b2 B1 k1 k2 hb1 hb2 hr1 hr2 e1 e2
    rw [hnx] at hb1 hb2
    by_cases ea : b1 = H.next <;> by_cases eb : b2 = H.next
    · omega
    · subst ea
      rw [hatn] at e1; rw [hat b2 eb] at e2
      have := (h.base b2 B1 k2 e2).2
      simp at e1; omega
    · subst eb
      rw [hatn] at e2; rw [hat b1 ea] at e1
      have := (h.base b1 B1 k1 e1).2
      simp at e2; omega
    · rw [hat b1 ea] at e1; rw [hat b2 eb] at e2
      have l1 : b1 < H.next := by omega
      have l2 : b2 < H.next := by omega
      rw [hold b1 l1] at hr1; rw [hold b2 l2] at hr2
      exact h.inj b1 b2 B1 k1 k2 l1 l2 hr1 hr2 e1 e2
  · intro b' B' k' hr'
    by_cases e : b' = H.next
    · subst e
      rw [hatn] at hr'
      simp at hr'
      exact ⟨by show c.N ≤ B'; omega, by omega⟩
    · rw [hat b' e] at hr'
      have := h.base b' B' k' hr'
      exact ⟨this.1, by omega⟩
  · intro B' hB' _
    exact hoth B' hB'
  · rintro B' hB' ⟨b', k', h3⟩
    by_cases e : b' = H.next
    · subst e; rw [hatn] at h3; simp at h3; omega
    · exact ⟨b', k', (hat b' e).symm.trans h3⟩

/-- an old block goes on under a new name, and is laid anew -/
theorem Hs.move {E : Env} {c : Cx} {H : Heap} {w w' : World} (h : Hs E c H w) {b B k k' : Nat} {x : AH} (hlim : H.next < E.lim) (hb : b < H.next) (hr : real (hget E H b) = true)
    (hrho : c.rho b = some (B, k)) (hsz : w'.heap.size = w.heap.size) (hoth : ∀ B', B' ≠ B → w'.heap[B']? = w.heap[B']?) (hm : MapMono w w' B) (hrk : RowKeep w w' B)
    (ht : w'.tape = w.tape) (hos : w'.os = w.os) (hout : w'.output = w.output) (hx : Bk E (c.at H.next B k') w' x B k') :
    Stp E c H w (c.at H.next B k') (putH E (newH E H x) b .dead) w' := by
  have hrn := h.rho_next (Nat.le_refl H.next)
  have hle : c.Le (c.at H.next B k') := Cx.at_le hrn
  have hmm : ∀ Bm, MapMono w w' Bm := fun Bm => by
    by_cases e : Bm = B
    · subst e; exact hm
    · exact .of_eq (hoth Bm e)
  have hrkk : ∀ Bm, RowKeep w w' Bm := fun Bm => by
    by_cases e : Bm = B
    · subst e; exact hrk
    · exact .of_eq (hoth Bm e)
  have hnx : (putH E (newH E H x) b .dead).next = H.next + 1 := rfl
  have hg : ∀ b', b' < E.lim → hget E (putH E (newH E H x) b .dead) b' = if b' = b then .dead else if b' = H.next then x else hget E H b' := by
    intro b' hb'
    rw [hget_putH h.limD _ (h.lim hb) hb' .dead, hget_newH h.limD H hlim hb' x]
  have hat : ∀ b', b' ≠ H.next → (c.at H.next B k').rho b' = c.rho b' := fun b' e => by simp [Cx.at, e]
  have hatn : (c.at H.next B k').rho H.next = some (B, k') := by simp [Cx.at]
  have hold : ∀ b', b' < H.next → b' ≠ b → hget E (putH E (newH E H x) b .dead) b' = hget E H b' := fun b' hb' e => by
    rw [hg b' (h.lim hb'), if_neg e, if_neg (by omega)]
  have hdead : hget E (putH E (newH E H x) b .dead) b = .dead := by rw [hg b (h.lim hb), if_pos rfl]
  refine ⟨⟨h.limD, by rw [hsz]; exact h.N, h.sig, by rw [hnx]; omega, ?_, ?_, ?_, ?_, ?_, h.cap, h.glt, h.olt, fun j g b sz h1 h2 => own_mono hle hrkk (h.own j g b sz h1 h2)⟩, ⟨hle, by omega, ?_, ?_, ht, hos, hout, by rw [hnx]; omega, Nat.le_refl _, fun b hb => hat b (by omega), [b, H.next], rfl, fun b' hb' hn => by
    simp at hn; rw [hg b' hb', if_neg hn.1, if_neg hn.2]⟩⟩
  · intro b' hb' hr'
    rw [hg b' hb'] at hr'
    rw [hnx]
    split at hr'
    · simp [real] at hr'
    · split at hr'
      · omega
      · have := h.dom b' hb' hr'; omega
  · intro b' x' hx'
    rw [hnx]
    by_cases e : b' = H.next
    · omega
    · rw [hat b' e] at hx'; have := h.rlt b' x' hx'; omega
  · intro b' B' k1 hb' hr' h1
    rw [hnx] at hb'
    by_cases e : b' = H.next
    · subst e
      rw [hg _ hlim, if_neg (by omega), if_pos rfl]
      rw [hatn] at h1; cases h1
      exact hx
    · have hlt : b' < H.next := by omega
      by_cases e2 : b' = b
      · subst e2; rw [hdead] at hr'; simp [real] at hr'
      · rw [hold b' hlt e2] at hr' ⊢
        rw [hat b' e] at h1
        have h2 := h.blk b' B' k1 hlt hr' h1
        refine h2.mono hle (hoth B' fun e3 => e2 ?_) hmm
        subst e3
        exact h.inj b' b B' k1 k hlt hb hr' hr h1 hrho
  · intro b1 b2 B1 k1 k2 hb1 hb2 hr1 hr2 e1 e2
    rw [hnx] at hb1 hb2
    have key : ∀ b1 k1, b1 < H.next → real (hget E (putH E (newH E H x) b .dead) b1) = true → (c.at H.next B k').rho b1 = some (B, k1) → False := by
      intro b1 k1 l1 hr1 e1
      rw [hat b1 (by omega)] at e1
      by_cases e : b1 = b
      · subst e; rw [hdead] at hr1; simp [real] at hr1
      · rw [hold b1 l1 e] at hr1
        exact e (h.inj b1 b B k1 k l1 hb hr1 hr e1 hrho)
    by_cases ea : b1 = H.next <;> by_cases eb : b2 = H.next
    · omega
    · subst ea
      rw [hatn] at e1; simp at e1
      exact (key b2 k2 (by omega) hr2 (by rw [e2, e1.1])).elim
    · subst eb
      rw [hatn] at e2; simp at e2
      exact (key b1 k1 (by omega) hr1 (by rw [e1, e2.1])).elim
    · have l1 : b1 < H.next := by omega
      have l2 : b2 < H.next := by omega
      have n1 : b1 ≠ b := fun e => by subst e; rw [hdead] at hr1; simp [real] at hr1
      have n2 : b2 ≠ b := fun e => by subst e; rw [hdead] at hr2; simp [real] at hr2
      rw [hat b1 ea] at e1; rw [hat b2 eb] at e2
      rw [hold b1 l1 n1] at hr1; rw [hold b2 l2 n2] at hr2
      exact h.inj b1 b2 B1 k1 k2 l1 l2 hr1 hr2 e1 e2
  · intro b' B' k1 hr'
    rw [hsz]
    by_cases e : b' = H.next
    · subst e
      rw [hatn] at hr'
      simp at hr'
      have := h.base b B k hrho
      rw [← hr'.1]
      exact this
    · rw [hat b' e] at hr'
      exact h.base b' B' k1 hr'
  · intro B' hB' hn
    exact hoth B' fun e => hn ⟨b, k, e ▸ hrho⟩
  · rintro B' hB' ⟨b', k1, h3⟩
    by_cases e : b' = H.next
    · subst e; rw [hatn] at h3; simp at h3; exact ⟨b, k, by rw [hrho, h3.1]⟩
    · exact ⟨b', k1, (hat b' e).symm.trans h3⟩

/-- a new capacity -/
def Cx.cap (c : Cx) (j g b sz : Nat) : Cx := { c with gam := fun x => if x = j then some g else c.gam x, own := fun x => if x = j then some (b, sz) else c.own x }
theorem Cx.cap_gam (c : Cx) (j g b sz : Nat) : (c.cap j g b sz).gam j = some g := by simp [Cx.cap]
theorem Cx.cap_own (c : Cx) (j g b sz : Nat) : (c.cap j g b sz).own j = some (b, sz) := by simp [Cx.cap]
theorem Hs.newCap {E : Env} {c : Cx} {H : Heap} {w : World} (h : Hs E c H w) {lo g b sz : Nat} (hg : lo ≤ g)
    (hb : ∃ B k cs e fr, c.rho b = some (B, k) ∧ w.heap[B]? = some (.cells cs e fr) ∧ sz = E.P.cellsOf e ∧ k + g * sz ≤ cs.size) :
    Stp E c H w (c.cap H.ncap g b sz) (newCap H lo) w := by
  have hn : c.gam H.ncap = none := by
    cases e : c.gam H.ncap with
    | none => rfl
    | some x => have := h.glt _ _ e; omega
  have hno : c.own H.ncap = none := by
    cases e : c.own H.ncap with
    | none => rfl
    | some x => have := h.olt _ _ e; omega
  have hle : c.Le (c.cap H.ncap g b sz) := ⟨rfl, rfl, fun _ _ h => h, fun j x hx => by
    simp only [Cx.cap]
    split
    · rename_i e; subst e; rw [hn] at hx; cases hx
    · exact hx, fun j x hx => by
    simp only [Cx.cap]
    split
    · rename_i e; subst e; rw [hno] at hx; cases hx
    · exact hx⟩
  have hget' : ∀ b, hget E (Eng.newCap H lo) b = hget E H b := fun _ => rfl
  refine ⟨⟨h.limD, h.N, h.sig, h.next, h.dom, h.rlt, ?_, h.inj, h.base, ?_, ?_, ?_, ?_⟩, ⟨hle, Nat.le_refl _, fun _ _ _ => rfl, fun _ _ h => h, rfl, rfl, rfl, Nat.le_refl _, Nat.le_succ _, fun _ _ => rfl, [], rfl, fun _ _ _ => rfl⟩⟩
  · intro b B k hb hr h1
    exact (h.blk b B k hb hr h1).mono hle rfl fun _ => .of_eq rfl
  · intro j lo' hi' hj
    simp only [Eng.newCap, capLook] at hj
    split at hj
    · rename_i e
      have e' : H.ncap = j := by simpa using e
      subst e'
      simp at hj
      exact ⟨g, by simp [Cx.cap], by omega, fun h2 hh => by rw [← hj.2] at hh; cases hh⟩
    · obtain ⟨g', h1, h2⟩ := h.cap j lo' hi' hj
      exact ⟨g', hle.gam _ _ h1, h2⟩
  · intro j x hx
    simp only [Cx.cap] at hx
    show j < H.ncap + 1
    split at hx
    · omega
    · have := h.glt _ _ hx; omega
  · intro j x hx
    simp only [Cx.cap] at hx
    show j < H.ncap + 1
    split at hx
    · omega
    · have := h.olt _ _ hx; omega
  · intro j g' b' sz' h1 h2
    simp only [Cx.cap] at h1 h2
    split at h1
    · rename_i e
      rw [if_pos e] at h2
      cases h1; cases h2
      exact hb
    · rename_i e
      rw [if_neg e] at h2
      exact h.own j g' b' sz' h1 h2

/-- the world may change where it does not matter -/
theorem Hs.world {E : Env} {c : Cx} {H : Heap} {w w' : World} (h : Hs E c H w) (hh : w'.heap = w.heap) (ht : w'.tape = w.tape) (hos : w'.os = w.os) (hout : w'.output = w.output) : Stp E c H w c H w' := by
  refine ⟨⟨h.limD, by rw [hh]; exact h.N, h.sig, h.next, h.dom, h.rlt, ?_, h.inj, ?_, h.cap, h.glt, h.olt, fun j g b sz h1 h2 => own_mono (.refl c) (fun _ => .of_eq (by rw [hh])) (h.own j g b sz h1 h2)⟩, ⟨.refl c, by rw [hh]; exact Nat.le_refl _, fun B _ _ => by rw [hh], fun _ _ h => h, ht, hos, hout, Nat.le_refl _, Nat.le_refl _, fun _ _ => rfl, [], rfl, fun _ _ _ => rfl⟩⟩
  · intro b B k hb hr h1
    exact (h.blk b B k hb hr h1).mono (.refl c) (by rw [hh]) fun _ => .of_eq (by rw [hh])
  · intro b B k hr; rw [hh]; exact h.base b B k hr

end Go.Eng
/- The model's own memory operations, run. -/
namespace Go.Eng

def World.setB (w : World) (B : Nat) (o : Obj) : World := { w with heap := w.heap.setIfInBounds B o }

section
variable {P : Program} {w : World}

theorem setB_size (w : World) (B : Nat) (o : Obj) : (World.setB w B o).heap.size = w.heap.size := by simp [World.setB]
theorem setB_same {w : World} {B : Nat} (h : B < w.heap.size) (o : Obj) : (World.setB w B o).heap[B]? = some o := by simp [World.setB, h]
theorem setB_other (w : World) {B B' : Nat} (h : B' ≠ B) (o : Obj) : (World.setB w B o).heap[B']? = w.heap[B']? := by
  simp [World.setB, Ne.symm h]
theorem setB_setB (w : World) (B : Nat) (o o' : Obj) : World.setB (World.setB w B o) B o' = World.setB w B o' := by
  simp only [World.setB]
  congr 1
  apply Array.ext_getElem?
  intro i
  simp only [Array.getElem?_setIfInBounds, Array.size_setIfInBounds]
  split
  · rfl
  · rfl

theorem block_lt {w : World} {B : Nat} {o : Obj} (h : w.heap[B]? = some o) : B < w.heap.size := (Array.getElem?_eq_some_iff.1 h).1

theorem cell_at {B o : Nat} {cs : Array Value} {e : TypeId} {fr : Nat × Nat} (h : w.heap[B]? = some (.cells cs e fr)) : w.cell? ⟨B, o, none⟩ = cs[o]? := by
  simp [World.cell?, h]

theorem addr_add (B o n : Nat) : Addr.add ⟨B, o, none⟩ n = ⟨B, o + n, none⟩ := by
  unfold Addr.add; split
  · rename_i h; subst h; rfl
  · rfl

theorem setCell_setB {B o : Nat} {cs : Array Value} {e : TypeId} {fr : Nat × Nat} (h : w.heap[B]? = some (.cells cs e fr)) (v : Value) :
    w.setCell ⟨B, o, none⟩ v = World.setB w B (.cells (cs.setIfInBounds o v) e fr) := by
  have hB := block_lt h
  unfold World.setCell World.setB
  congr 1
  apply Array.ext_getElem?
  intro i
  simp only [Array.getElem?_modify, Array.getElem?_setIfInBounds]
  by_cases hi : B = i
  · subst hi
    have e0 : w.heap[B] = .cells cs e fr := by simpa [Array.getElem?_eq_getElem hB] using h
    simp [hB, e0]
  · rw [if_neg hi, if_neg hi]

theorem run_store_at {B o : Nat} {cs : Array Value} {e : TypeId} {lo hi : Nat} (h : w.heap[B]? = some (.cells cs e (lo, hi))) {v : Value} (hv : v.oneCell' = true)
    (ho : o < cs.size) (hf : ¬ (lo ≤ o ∧ o < hi)) (m : Mode) : (store ⟨B, o, none⟩ v m).run P w = .ok () (World.setB w B (.cells (cs.setIfInBounds o v) e (lo, hi))) := by
  rw [run_store P w _ v m hv, cell_at h]
  have : cs[o]? = some cs[o] := by simp [ho]
  rw [this]
  simp only [World.frozen?, h]
  rw [if_neg (by simpa using hf), setCell_setB h]

theorem run_load_at {B o : Nat} {cs : Array Value} {e : TypeId} {fr : Nat × Nat} (h : w.heap[B]? = some (.cells cs e fr)) {v : Value} (ho : cs[o]? = some v) (m : Mode) :
    (load ⟨B, o, none⟩ m).run P w = .ok v w := by
  rw [run_load, cell_at h, ho]

/-- cells laid over a row -/
def overL (cs : List Value) (o : Nat) (vs : List Value) : List Value := cs.take o ++ (vs ++ cs.drop (o + vs.length))

theorem run_storeCells_own {B o : Nat} {e : TypeId} {lo hi : Nat} : ∀ (vs : List Value) (i : Nat) (cs : Array Value) (w : World), w.heap[B]? = some (.cells cs e (lo, hi)) →
    (∀ v ∈ vs, v.oneCell' = true) → o + i + vs.length ≤ cs.size → (∀ j, j < cs.size → ¬ (lo ≤ j ∧ j < hi)) →
    (storeCells ⟨B, o, none⟩ vs i).run P w = .ok () (World.setB w B (.cells (overL cs.toList (o + i) vs).toArray e (lo, hi)))
  | [], i, cs, w, h, _, _, _ => by
    have : World.setB w B (.cells (overL cs.toList (o + i) []).toArray e (lo, hi)) = w := by
      simp only [overL, List.nil_append, List.length_nil, Nat.add_zero, List.take_append_drop, World.setB]
      have : w.heap.setIfInBounds B (.cells cs e (lo, hi)) = w.heap := by
        apply Array.ext_getElem?
        intro j
        simp only [Array.getElem?_setIfInBounds]
        split
        · rename_i e; subst e
          rw [if_pos (block_lt h), h]
        · rfl
      simp [this]
    rw [this]
    simp [storeCells]
  | v :: vs, i, cs, w, h, hv, hl, hf => by
    simp only [List.length_cons] at hl
    have h1 := run_store_at (P := P) (o := o + i) h (hv v (by simp)) (by omega) (hf _ (by omega)) .plain
    simp only [storeCells, Sem.run_bind, addr_add]
    rw [h1]
    simp only [Result.andThen_ok]
    have hB := block_lt h
    rw [run_storeCells_own vs (i + 1) (cs.setIfInBounds (o + i) v) _ (setB_same hB _) (fun x hx => hv x (by simp [hx])) (by simp; omega) (fun j hj => hf j (by simpa using hj))]
    rw [setB_setB]
    have : overL (cs.setIfInBounds (o + i) v).toList (o + (i + 1)) vs = overL cs.toList (o + i) (v :: vs) := by
      simp only [overL, Array.toList_setIfInBounds, List.length_cons]
      have hlt : o + i < cs.toList.length := by simp; omega
      rw [List.drop_set_of_lt (by omega)]
      have e1 : o + (i + 1) = o + i + 1 := by omega
      rw [e1, List.take_succ_eq_append_getElem (by simpa using hlt), List.take_set_of_le (by omega)]
      simp only [List.getElem_set_self, List.append_assoc, List.cons_append, List.nil_append]
      congr 4
      omega
    rw [this]

theorem run_loadCells_own {B o n : Nat} {cs : Array Value} {e : TypeId} {fr : Nat × Nat} (h : w.heap[B]? = some (.cells cs e fr)) (hn : o + n ≤ cs.size) :
    (loadCells ⟨B, o, none⟩ n).run P w = .ok ((cs.toList.drop o).take n).toArray w := by
  have hl : ((cs.toList.drop o).take n).length = n := by simp; omega
  have := run_loadCells_list (P := P) (w := w) ⟨B, o, none⟩ ((cs.toList.drop o).take n) (fun j v hj => by
    rw [addr_add, cell_at h]
    rw [List.getElem?_take] at hj
    split at hj
    · rw [List.getElem?_drop] at hj
      simpa using hj
    · cases hj)
  rw [hl] at this
  exact this

theorem info_of_underlying {t : TypeId} {d : TypeDesc} (h : P.underlying t = some d) : ∃ i, P.info? t = some i := by
  unfold Program.underlying at h
  cases e : P.info? t with
  | none => rw [e] at h; cases h
  | some i => exact ⟨i, rfl⟩
theorem run_typeInfo' {t : TypeId} {i : TypeInfo} (h : P.info? t = some i) : (typeInfo t).run P w = .ok i w := by
  simp [typeInfo, h]
theorem run_sizeOf' {t : TypeId} {i : TypeInfo} (h : P.info? t = some i) : (sizeOf t).run P w = .ok i.size w := by
  simp [sizeOf, run_typeInfo' h]
theorem cellsOf_eq {t : TypeId} {i : TypeInfo} (h : P.info? t = some i) : P.cellsOf t = i.size := by simp [Program.cellsOf, h]
def aggD : TypeDesc → Bool
  | .struct _ => true
  | .array _ _ => true
  | _ => false
theorem run_isAgg' {t : TypeId} {d : TypeDesc} (h : P.underlying t = some d) : (Go.isAgg t).run P w = .ok (aggD d) w := by
  simp only [Go.isAgg, Sem.run_bind, run_underlying h, Result.andThen_ok]
  cases d <;> rfl
theorem run_zeroValue' {t : TypeId} {i : TypeInfo} {z : Value} (h : P.info? t = some i) (hz : i.zero = some z) : (zeroValue t).run P w = .ok z w := by
  simp [zeroValue, run_typeInfo' h, hz]

/-- what a kind of type says -/
theorem tyK_one {t : TypeId} (h : tyK P t = .one) : ∃ i d, P.info? t = some i ∧ P.underlying t = some d ∧ i.size = 1 ∧ (aggD d) = false := by
  unfold tyK at h
  cases e : P.info? t with
  | none => rw [e] at h; cases h
  | some i =>
    rw [e] at h
    cases e2 : P.underlying t with
    | none => rw [e2] at h; cases h
    | some d =>
      rw [e2] at h
      refine ⟨i, d, rfl, rfl, ?_, ?_⟩
      · cases d <;> simp only at h <;> first | (cases h; done) | (split at h <;> first | (rename_i hb; simpa using hb) | cases h)
      · cases d <;> simp only at h <;> first | (cases h; done) | rfl
theorem tyK_agg {t : TypeId} {n : Nat} (h : tyK P t = .agg n) : ∃ i d, P.info? t = some i ∧ P.underlying t = some d ∧ i.size = n ∧ (aggD d) = true := by
  unfold tyK at h
  cases e : P.info? t with
  | none => rw [e] at h; cases h
  | some i =>
    rw [e] at h
    cases e2 : P.underlying t with
    | none => rw [e2] at h; cases h
    | some d =>
      rw [e2] at h
      cases d <;> simp only at h <;> first
        | (cases h; exact ⟨i, _, rfl, rfl, rfl, rfl⟩)
        | (split at h <;> cases h)
end

end Go.Eng
