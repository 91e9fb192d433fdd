/- The program's functions without a body, and those that are told by what they do. -/
import Derived.Test.YtmhehkkbmkmlkaaGreatEngK
import Derived.Test.YtmhehkkbmkmlkaaGreatTnEq
import Derived.KernelRfl
namespace Go.Eng

/-- one function that is not stepped into -/
def ExtOK (E : Env) (f : Nat) (k : ExtK) : Prop := ∀ (cs : List Frame) (c : Cx) (H : Heap) (w : World) (l : List AV) (ys : Array Value), FactsOK E c → Hs E c H w → SL c l ys.toList →
  OKN E cs c H w (hExtern E k l H) ((callFunc f ys).run E.P w)
theorem extOf_mem {f : Nat} {k : ExtK} : ∀ {l : List (Nat × ExtK)}, extOf f l = .ext k → (f, k) ∈ l
  | [], h => by cases h
  | (g, k') :: l, h => by
    unfold extOf at h
    split at h
    · rename_i hb
      cases h
      cases Nat.eq_of_beq_eq_true hb
      exact List.mem_cons_self
    · exact List.mem_cons_of_mem _ (extOf_mem h)
theorem ExtsOK.of_all {E : Env} (h : ∀ p ∈ E.exts, ExtOK E p.1 p.2) : ExtsOK E := fun f k hk => h (f, k) (extOf_mem hk)

noncomputable def tzExts : List (Nat × ExtK) := [(190,.add .i64),(375,.load .u32),(381,.store),(384,.cas .i32),(389,.add .i32),(383,.nop),(385,.nop),(386,.nopA),(388,.nopA),(196,.same),(326,.clone),(219,.overlaps),(272,.overlaps),(274,.overlaps)]
noncomputable def tzP : Program := Go.Proofs.Tryz.prog

theorem tz190 : IsExt tzP 190 (Extern.Atomic.update (Op.intArith .add) .i64 true) := ⟨Go.Proofs.Tryz.f190, Go.Proofs.Tryz.func190, by kernel_rfl, by kernel_rfl, by kernel_rfl, by kernel_rfl⟩
theorem tz375 : IsExt tzP 375 (Extern.Atomic.loadT (.int .u32)) := ⟨Go.Proofs.Tryz.f375, Go.Proofs.Tryz.func375, by kernel_rfl, by kernel_rfl, by kernel_rfl, by kernel_rfl⟩
theorem tz381 : IsExt tzP 381 Extern.Atomic.storeT := ⟨Go.Proofs.Tryz.f381, Go.Proofs.Tryz.func381, by kernel_rfl, by kernel_rfl, by kernel_rfl, by kernel_rfl⟩
theorem tz384 : IsExt tzP 384 (Extern.Atomic.casT (.int .i32)) := ⟨Go.Proofs.Tryz.f384, Go.Proofs.Tryz.func384, by kernel_rfl, by kernel_rfl, by kernel_rfl, by kernel_rfl⟩
theorem tz389 : IsExt tzP 389 (Extern.Atomic.update (Op.intArith .add) .i32 true) := ⟨Go.Proofs.Tryz.f389, Go.Proofs.Tryz.func389, by kernel_rfl, by kernel_rfl, by kernel_rfl, by kernel_rfl⟩
theorem tz383 : IsExt tzP 383 (fun _ => do mark .disable; pure Extern.Race.none_) := ⟨Go.Proofs.Tryz.f383, Go.Proofs.Tryz.func383, by kernel_rfl, by kernel_rfl, by kernel_rfl, by kernel_rfl⟩
theorem tz385 : IsExt tzP 385 (fun _ => do mark .enable; pure Extern.Race.none_) := ⟨Go.Proofs.Tryz.f385, Go.Proofs.Tryz.func385, by kernel_rfl, by kernel_rfl, by kernel_rfl, by kernel_rfl⟩
theorem tz386 : IsExt tzP 386 (Extern.Race.marked Mark.acquire) := ⟨Go.Proofs.Tryz.f386, Go.Proofs.Tryz.func386, by kernel_rfl, by kernel_rfl, by kernel_rfl, by kernel_rfl⟩
theorem tz388 : IsExt tzP 388 (Extern.Race.marked Mark.releaseMerge) := ⟨Go.Proofs.Tryz.f388, Go.Proofs.Tryz.func388, by kernel_rfl, by kernel_rfl, by kernel_rfl, by kernel_rfl⟩
theorem tz196 : IsExt tzP 196 Extern.AbiNoEscape.same := ⟨Go.Proofs.Tryz.f196, Go.Proofs.Tryz.func196, by kernel_rfl, by kernel_rfl, by kernel_rfl, by kernel_rfl⟩
theorem tz326 : IsExt tzP 326 Extern.MapsClone.clone := ⟨Go.Proofs.Tryz.f326, Go.Proofs.Tryz.func326, by kernel_rfl, by kernel_rfl, by kernel_rfl, by kernel_rfl⟩
theorem tz219 : IsExt tzP 219 (Extern.SlicesOverlaps.overlaps #[39, 39] #[4]) := ⟨Go.Proofs.Tryz.f219, Go.Proofs.Tryz.func219, by kernel_rfl, by kernel_rfl, by kernel_rfl, by kernel_rfl⟩
theorem tz272 : IsExt tzP 272 (Extern.SlicesOverlaps.overlaps #[40, 40] #[4]) := ⟨Go.Proofs.Tryz.f272, Go.Proofs.Tryz.func272, by kernel_rfl, by kernel_rfl, by kernel_rfl, by kernel_rfl⟩
theorem tz274 : IsExt tzP 274 (Extern.SlicesOverlaps.overlaps #[41, 41] #[4]) := ⟨Go.Proofs.Tryz.f274, Go.Proofs.Tryz.func274, by kernel_rfl, by kernel_rfl, by kernel_rfl, by kernel_rfl⟩
theorem tzInfo49 : (tzP.info? 49).isSome = true := by kernel_rfl
theorem tzInfo9 : (tzP.info? 9).isSome = true := by kernel_rfl
theorem tzInfo3 : (tzP.info? 3).isSome = true := by kernel_rfl
theorem tzEq : EqOK tzP 68 := ⟨⟨Go.Proofs.Tryz.f68, Go.Proofs.Tryz.func68, by kernel_rfl, by kernel_rfl⟩, Go.Proofs.Tryz.equal_bytes, Go.Proofs.Tryz.equal_lens, Go.Proofs.Tryz.equal_empty⟩

set_option maxRecDepth 100000 in
theorem tz_base {facts : List Fact} {exts : List (Nat × ExtK)} {joins : List Nat} : ∀ p ∈ tzExts, ExtOK ⟨tzP, facts, 6, 4096, exts, joins, 395⟩ p.1 p.2 := by
  obtain ⟨i49, h49⟩ := Option.isSome_iff_exists.1 tzInfo49
  obtain ⟨i9, h9⟩ := Option.isSome_iff_exists.1 tzInfo9
  obtain ⟨i3, h3⟩ := Option.isSome_iff_exists.1 tzInfo3
  unfold tzExts
  refine List.forall_mem_cons.2 ⟨ext_of tz190 (ext_add .i64), ?_⟩
  refine List.forall_mem_cons.2 ⟨ext_of tz375 (ext_load .u32), ?_⟩
  refine List.forall_mem_cons.2 ⟨ext_of tz381 ext_store, ?_⟩
  refine List.forall_mem_cons.2 ⟨ext_of tz384 (ext_cas .i32), ?_⟩
  refine List.forall_mem_cons.2 ⟨ext_of tz389 (ext_add .i32), ?_⟩
  refine List.forall_mem_cons.2 ⟨ext_of tz383 (ext_nop fun _ _ => rfl), ?_⟩
  refine List.forall_mem_cons.2 ⟨ext_of tz385 (ext_nop fun _ _ => rfl), ?_⟩
  refine List.forall_mem_cons.2 ⟨ext_of tz386 (ext_nopA _), ?_⟩
  refine List.forall_mem_cons.2 ⟨ext_of tz388 (ext_nopA _), ?_⟩
  refine List.forall_mem_cons.2 ⟨ext_of tz196 ext_same, ?_⟩
  refine List.forall_mem_cons.2 ⟨ext_of tz326 ext_clone, ?_⟩
  refine List.forall_mem_cons.2 ⟨ext_of tz219 (ext_overlaps (E := ⟨tzP, facts, 6, 4096, exts, joins, 395⟩) Go.Proofs.Tryz.underlying39 h49), ?_⟩
  refine List.forall_mem_cons.2 ⟨ext_of tz272 (ext_overlaps (E := ⟨tzP, facts, 6, 4096, exts, joins, 395⟩) Go.Proofs.Tryz.underlying40 h9), ?_⟩
  refine List.forall_mem_cons.2 ⟨ext_of tz274 (ext_overlaps (E := ⟨tzP, facts, 6, 4096, exts, joins, 395⟩) Go.Proofs.Tryz.underlying41 h3), ?_⟩
  intro p hp; cases hp

/-- nothing but what has no body -/
noncomputable def tzE0 : Env := ⟨tzP, [], 6, 4096, tzExts, [117], 395⟩
theorem tzX0 : ExtsOK tzE0 := .of_all tz_base
theorem tzF0 (c : Cx) : FactsOK tzE0 c := fun f hf => by cases hf
end Go.Eng
