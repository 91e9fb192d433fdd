/- The chapter's row holds: told by the engine's run. -/
import Derived.Test.YtmhehkkbmkmlkaaGreatTnBegun
namespace Go.Eng
theorem tzWorks : isTrue (run tzE2 100000 1000 200 (.call 4 [] false .ret (Hn 1))) = true := by kernel_rfl
theorem tz_works {facts : List Fact} {exts : List (Nat × ExtK)} {joins : List Nat} : ExtOK ⟨tzP, facts, 6, 4096, exts, joins, 395⟩ 4 .yes :=
  ext_yes (E0 := tzE2) (E := ⟨tzP, facts, 6, 4096, exts, joins, 395⟩) ⟨rfl, rfl, rfl, rfl⟩ tzX2 tzF2 (by kernel_rfl) (of_decide_eq_true (by kernel_rfl)) tzWorks
end Go.Eng
