/- The law's own runs: each kind of input, its words standing for themselves. -/
import Derived.Test.YtmhehkkbmkmlkaaGreatTnWorks
import Derived.Test.YtmhehkkbmkmlkaaGreatEngK
namespace Go.Eng
noncomputable def tzE3 (facts : List Fact) : Env := ⟨tzP, facts, 6, 4096, (4, .yes) :: (5, .start 1 [.int .i64 40, .int .i64 40] bgV bgH) :: (358, .crc) :: (68, .eqB) :: tzExts, [117], 395⟩
theorem tzX3 (facts : List Fact) : ExtsOK (tzE3 facts) := .of_all (List.forall_mem_cons.2 ⟨tz_works, List.forall_mem_cons.2 ⟨tz_begun, List.forall_mem_cons.2 ⟨tz_crc, List.forall_mem_cons.2 ⟨ext_eqB tzEq, tz_base⟩⟩⟩⟩)
/-- the law, called -/
noncomputable def tzRun (facts : List Fact) (root : AV) : Bool := isTrue (run (tzE3 facts) 1000 1000 200 (.call 3 [root, .sym 0, .sym 1] false .ret H0))
/-- symbols: 0 the key, 1 the value, 2 and 3 their lengths, 4 the root, 5 what is left of it by 2 -/
def tzFA : List Fact := [⟨100, 0, 0, .sym 2⟩, ⟨15, 2, 100, .bool true⟩]
def tzFB : List Fact := [⟨100, 0, 0, .sym 2⟩, ⟨15, 2, 100, .bool false⟩, ⟨100, 1, 0, .sym 3⟩, ⟨15, 3, 100, .bool true⟩]
def tzFN (odd : Bool) : List Fact := [⟨100, 0, 0, .sym 2⟩, ⟨15, 2, 100, .bool false⟩, ⟨100, 1, 0, .sym 3⟩, ⟨15, 3, 100, .bool false⟩, ⟨16, 4, 0, .bool false⟩, ⟨13, 4, 16, .bool true⟩, ⟨13, 4, 0, .bool true⟩, ⟨16, 4, 16, .bool false⟩, ⟨4, 4, 2, .sym 5⟩, ⟨11, 5, 1, .bool odd⟩]
def tzFP (odd : Bool) : List Fact := [⟨100, 0, 0, .sym 2⟩, ⟨15, 2, 100, .bool false⟩, ⟨100, 1, 0, .sym 3⟩, ⟨15, 3, 100, .bool false⟩, ⟨16, 4, 0, .bool true⟩, ⟨13, 4, 16, .bool false⟩, ⟨13, 4, 0, .bool false⟩, ⟨16, 4, 16, .bool true⟩, ⟨4, 4, 2, .sym 5⟩, ⟨11, 5, 1, .bool odd⟩]
def tzFR (long : Bool) : List Fact := [⟨100, 0, 0, .sym 2⟩, ⟨15, 2, 100, .bool false⟩, ⟨100, 1, 0, .sym 3⟩, ⟨15, 3, 100, .bool false⟩, ⟨15, 2, 81, .bool long⟩, ⟨15, 3, 4000, .bool false⟩]
theorem tzRunA : tzRun tzFA (.sym 4) = true := by kernel_rfl
theorem tzRunB : tzRun tzFB (.sym 4) = true := by kernel_rfl
theorem tzRunNt : tzRun (tzFN true) (.sym 4) = true := by kernel_rfl
theorem tzRunNf : tzRun (tzFN false) (.sym 4) = true := by kernel_rfl
theorem tzRunPt : tzRun (tzFP true) (.sym 4) = true := by kernel_rfl
theorem tzRunPf : tzRun (tzFP false) (.sym 4) = true := by kernel_rfl
theorem tzRun0t : tzRun (tzFR true) (.int .i64 (.ofNat 0)) = true := by kernel_rfl
theorem tzRun1t : tzRun (tzFR true) (.int .i64 (.ofNat 1)) = true := by kernel_rfl
theorem tzRun2t : tzRun (tzFR true) (.int .i64 (.ofNat 2)) = true := by kernel_rfl
theorem tzRun3t : tzRun (tzFR true) (.int .i64 (.ofNat 3)) = true := by kernel_rfl
theorem tzRun4t : tzRun (tzFR true) (.int .i64 (.ofNat 4)) = true := by kernel_rfl
theorem tzRun5t : tzRun (tzFR true) (.int .i64 (.ofNat 5)) = true := by kernel_rfl
theorem tzRun6t : tzRun (tzFR true) (.int .i64 (.ofNat 6)) = true := by kernel_rfl
theorem tzRun7t : tzRun (tzFR true) (.int .i64 (.ofNat 7)) = true := by kernel_rfl
theorem tzRun8t : tzRun (tzFR true) (.int .i64 (.ofNat 8)) = true := by kernel_rfl
theorem tzRun9t : tzRun (tzFR true) (.int .i64 (.ofNat 9)) = true := by kernel_rfl
theorem tzRun10t : tzRun (tzFR true) (.int .i64 (.ofNat 10)) = true := by kernel_rfl
theorem tzRun11t : tzRun (tzFR true) (.int .i64 (.ofNat 11)) = true := by kernel_rfl
theorem tzRun12t : tzRun (tzFR true) (.int .i64 (.ofNat 12)) = true := by kernel_rfl
theorem tzRun13t : tzRun (tzFR true) (.int .i64 (.ofNat 13)) = true := by kernel_rfl
theorem tzRun14t : tzRun (tzFR true) (.int .i64 (.ofNat 14)) = true := by kernel_rfl
theorem tzRun15t : tzRun (tzFR true) (.int .i64 (.ofNat 15)) = true := by kernel_rfl
theorem tzRun0f : tzRun (tzFR false) (.int .i64 (.ofNat 0)) = true := by kernel_rfl
theorem tzRun1f : tzRun (tzFR false) (.int .i64 (.ofNat 1)) = true := by kernel_rfl
theorem tzRun2f : tzRun (tzFR false) (.int .i64 (.ofNat 2)) = true := by kernel_rfl
theorem tzRun3f : tzRun (tzFR false) (.int .i64 (.ofNat 3)) = true := by kernel_rfl
theorem tzRun4f : tzRun (tzFR false) (.int .i64 (.ofNat 4)) = true := by kernel_rfl
theorem tzRun5f : tzRun (tzFR false) (.int .i64 (.ofNat 5)) = true := by kernel_rfl
theorem tzRun6f : tzRun (tzFR false) (.int .i64 (.ofNat 6)) = true := by kernel_rfl
theorem tzRun7f : tzRun (tzFR false) (.int .i64 (.ofNat 7)) = true := by kernel_rfl
theorem tzRun8f : tzRun (tzFR false) (.int .i64 (.ofNat 8)) = true := by kernel_rfl
theorem tzRun9f : tzRun (tzFR false) (.int .i64 (.ofNat 9)) = true := by kernel_rfl
theorem tzRun10f : tzRun (tzFR false) (.int .i64 (.ofNat 10)) = true := by kernel_rfl
theorem tzRun11f : tzRun (tzFR false) (.int .i64 (.ofNat 11)) = true := by kernel_rfl
theorem tzRun12f : tzRun (tzFR false) (.int .i64 (.ofNat 12)) = true := by kernel_rfl
theorem tzRun13f : tzRun (tzFR false) (.int .i64 (.ofNat 13)) = true := by kernel_rfl
theorem tzRun14f : tzRun (tzFR false) (.int .i64 (.ofNat 14)) = true := by kernel_rfl
theorem tzRun15f : tzRun (tzFR false) (.int .i64 (.ofNat 15)) = true := by kernel_rfl
theorem tzRunR (long : Bool) : ∀ r : Nat, r < 16 → tzRun (tzFR long) (.int .i64 (.ofNat r)) = true := by
  intro r hr
  match r, long with
  | 0, true => exact tzRun0t
  | 1, true => exact tzRun1t
  | 2, true => exact tzRun2t
  | 3, true => exact tzRun3t
  | 4, true => exact tzRun4t
  | 5, true => exact tzRun5t
  | 6, true => exact tzRun6t
  | 7, true => exact tzRun7t
  | 8, true => exact tzRun8t
  | 9, true => exact tzRun9t
  | 10, true => exact tzRun10t
  | 11, true => exact tzRun11t
  | 12, true => exact tzRun12t
  | 13, true => exact tzRun13t
  | 14, true => exact tzRun14t
  | 15, true => exact tzRun15t
  | 0, false => exact tzRun0f
  | 1, false => exact tzRun1f
  | 2, false => exact tzRun2f
  | 3, false => exact tzRun3f
  | 4, false => exact tzRun4f
  | 5, false => exact tzRun5f
  | 6, false => exact tzRun6f
  | 7, false => exact tzRun7f
  | 8, false => exact tzRun8f
  | 9, false => exact tzRun9f
  | 10, false => exact tzRun10f
  | 11, false => exact tzRun11f
  | 12, false => exact tzRun12f
  | 13, false => exact tzRun13f
  | 14, false => exact tzRun14f
  | 15, false => exact tzRun15f
  | n + 16, _ => omega
end Go.Eng
