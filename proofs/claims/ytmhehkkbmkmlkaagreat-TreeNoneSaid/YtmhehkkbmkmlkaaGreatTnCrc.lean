/- The table of sums: told by the engine's run. -/
import Derived.Test.YtmhehkkbmkmlkaaGreatTnBase
namespace Go.Eng
theorem tzCells : tzP.cellsOf 395 = 260 := by kernel_rfl
theorem tzU8 : isU8 tzP 395 = false := by kernel_rfl
theorem tzCrc : crcGood tzE0 (run tzE0 100000 1000 200 (.call 358 [.ptr 0 0] false .ret (crcH tzE0))) = true := by kernel_rfl
theorem tz_crc {facts : List Fact} {exts : List (Nat × ExtK)} {joins : List Nat} : ExtOK ⟨tzP, facts, 6, 4096, exts, joins, 395⟩ 358 .crc :=
  ext_crc (E0 := tzE0) (E := ⟨tzP, facts, 6, 4096, exts, joins, 395⟩) ⟨rfl, rfl, rfl, rfl⟩ tzX0 tzF0 (by kernel_rfl) tzCells tzU8 tzCrc
/-- with the table of sums, and the equality of bytes -/
noncomputable def tzE1 : Env := ⟨tzP, [], 6, 4096, (358, .crc) :: (68, .eqB) :: tzExts, [117], 395⟩
theorem tzX1 : ExtsOK tzE1 := .of_all (List.forall_mem_cons.2 ⟨tz_crc, List.forall_mem_cons.2 ⟨ext_eqB tzEq, tz_base⟩⟩)
theorem tzF1 (c : Cx) : FactsOK tzE1 c := fun f hf => by cases hf
end Go.Eng
