
import Derived.Test.YtmhehkkbmkmlkaaGreatProg
import Derived.WalkKit
import Derived.Deep.LoopGhost
import Derived.Deep.Draws
namespace Go.Proofs
open Go.RowKit

set_option maxHeartbeats 2000000 in
set_option maxRecDepth 100000 in
theorem Tryz.equal_bytes (b1 o1 n c b2 o2 d : Nat) (w : World) (hbig : n ≤ 1000000000) (k0 : Nat) (hk0 : k0 ≤ n) (xs : Nat → Int)
    (hc1 : ∀ j, j < k0 → w.cell? ⟨b1, o1 + j, none⟩ = some (.int .u8 (xs j))) (hc2 : ∀ j, j < k0 → w.cell? ⟨b2, o2 + j, none⟩ = some (.int .u8 (xs j)))
    (x y : Int) (hxy : (x != y) = true) (hlast : k0 < n → w.cell? ⟨b1, o1 + k0, none⟩ = some (.int .u8 x) ∧ w.cell? ⟨b2, o2 + k0, none⟩ = some (.int .u8 y)) :
    Calls Tryz.prog 68 #[.slice (some ⟨b1, o1, none⟩) n c, .slice (some ⟨b2, o2, none⟩) n d] w fun e w' => e = .returned (.bool (decide (k0 = n))) ∧ ∃ q, w' = w.drewN q := by
  go_enter Tryz.func68, Tryz.ntmps68
  go_wp2
  go_loopg [13] n (fun g s13 wr => ∃ k q : Nat, k ≤ k0 ∧ n - k ≤ g ∧ s13 = .int .i64 k ∧ wr = w.drewN q)
  case atStart => exact ⟨0, 0, Nat.zero_le _, by omega, rfl, rfl⟩
  case round =>
    obtain ⟨k, q, hk, hg, rfl, rfl⟩ := hrel
    by_cases hlt : k < k0
    · have hkn : k < n := by omega
      have g1 : w.cell? ⟨b1, o1 + k, none⟩ = some (.int .u8 (xs k)) := hc1 k hlt
      have g2 : w.cell? ⟨b2, o2 + k, none⟩ = some (.int .u8 (xs k)) := hc2 k hlt
      clear hc1 hc2 hlast
      generalize xs k = z at g1 g2
      go_wp2_with fail
      go_region
      go_wp2
      go_roundg (n - (k + 1))
      case measure => omega
      case rel =>
        refine ⟨k + 1, q + 1, by omega, by omega, by go_num, rfl⟩
    · have hkk : k = k0 := by omega
      subst hkk
      by_cases hkn : k < n
      · obtain ⟨g1, g2⟩ := hlast hkn
        clear hc1 hc2
        go_wp2_with fail
        go_region
        go_wp2
        go_ret
        refine ⟨?_, q + 1, rfl⟩
        have e : decide (k = n) = false := decide_eq_false (by omega)
        rw [e]
        rfl
      · have hkn' : k = n := by omega
        subst hkn'
        clear hc1 hc2 hlast
        go_wp2
        go_ret
        exact ⟨rfl, q, rfl⟩

set_option maxHeartbeats 2000000 in
set_option maxRecDepth 100000 in
theorem Tryz.equal_lens (a1 a2 : Option Addr) (n c m d : Nat) (w : World) (hnm : n ≠ m) :
    Calls Tryz.prog 68 #[.slice a1 n c, .slice a2 m d] w fun e w' => e = .returned (.bool false) ∧ ∃ q, w' = w.drewN q := by
  have hnm' : ¬ (n : Int) = (m : Int) := by omega
  go_enter Tryz.func68, Tryz.ntmps68
  go_wp2
  go_ret
  exact ⟨rfl, 0, rfl⟩

set_option maxHeartbeats 2000000 in
set_option maxRecDepth 100000 in
theorem Tryz.equal_empty (a1 a2 : Option Addr) (c d : Nat) (w : World) :
    Calls Tryz.prog 68 #[.slice a1 0 c, .slice a2 0 d] w fun e w' => e = .returned (.bool true) ∧ ∃ q, w' = w.drewN q := by
  go_enter Tryz.func68, Tryz.ntmps68
  go_wp2
  go_loopg [13] 0 (fun _ s13 wr => s13 = .int .i64 0 ∧ wr = w)
  case atStart => exact ⟨rfl, rfl⟩
  case round =>
    obtain ⟨rfl, rfl⟩ := hrel
    go_wp2
    go_ret
    exact ⟨rfl, 0, rfl⟩
end Go.Proofs
