/- The law tells true of whatever input. -/
import Derived.Test.YtmhehkkbmkmlkaaGreatTnMain
namespace Go.Eng

def tzSig (root : Int) (key val : ByteArray) : Nat → Value
  | 0 => .string key
  | 1 => .string val
  | 2 => .int .i64 key.size
  | 3 => .int .i64 val.size
  | 4 => .int .i64 root
  | 5 => .int .i64 (root.tmod 2)
  | _ => .bool true
theorem tzSig_one (root : Int) (key val : ByteArray) : ∀ i, (tzSig root key val i).oneCell' = true
  | 0 | 1 | 2 | 3 | 4 | 5 => rfl
  | _ + 6 => rfl
theorem run_rem2 (P : Program) (t : TypeId) (n : Int) (w : World) : (Go.binOp .rem t (.int .i64 n) (.int .i64 2)).run P w = .ok (.int .i64 (n.tmod 2)) w := by
  rw [run_binII P w t _ ⟨by decide, by decide⟩]
  simp [Op.intDiv]

section
variable {root : Int} {key val : ByteArray} {P : Program}
theorem tzLenK : FactOK P (tzSig root key val) ⟨100, 0, 0, .sym 2⟩ := .len rfl rfl
theorem tzLenV : FactOK P (tzSig root key val) ⟨100, 1, 0, .sym 3⟩ := .len rfl rfl
theorem tzK {y : Int} {b : Bool} (h : decide (y < (key.size : Int)) = b) : FactOK P (tzSig root key val) ⟨15, 2, y, .bool b⟩ := .cmp (op := .gtr) rfl rfl h
theorem tzV {y : Int} {b : Bool} (h : decide (y < (val.size : Int)) = b) : FactOK P (tzSig root key val) ⟨15, 3, y, .bool b⟩ := .cmp (op := .gtr) rfl rfl h
theorem tzGe {y : Int} {b : Bool} (h : decide (y ≤ root) = b) : FactOK P (tzSig root key val) ⟨16, 4, y, .bool b⟩ := .cmp (op := .geq) rfl rfl h
theorem tzLt {y : Int} {b : Bool} (h : decide (root < y) = b) : FactOK P (tzSig root key val) ⟨13, 4, y, .bool b⟩ := .cmp (op := .lss) rfl rfl h
theorem tzRem : FactOK P (tzSig root key val) ⟨4, 4, 2, .sym 5⟩ := .val (op := .rem) (fun t w => run_rem2 P t root w) rfl
theorem tzOdd : FactOK P (tzSig root key val) ⟨11, 5, 1, .bool (decide (root.tmod 2 = 1))⟩ := .cmp (op := .eql) rfl rfl rfl
end

theorem tz_call {root : Int} {key val : ByteArray} {w : World} {facts : List Fact} {ra : AV} (hr : V (Cx.none w (tzSig root key val)) ra (.int .i64 root))
    (hF : ∀ f ∈ facts, FactOK tzP (tzSig root key val) f) (hrun : tzRun facts ra = true) : Calls Go.Proofs.Tryz.prog 3 #[.int .i64 root, .string key, .string val] w (TrueP w) :=
  calls_true (E := tzE3 facts) (tzX3 facts) rfl (tzSig_one root key val) hF (by kernel_rfl) (args := [ra, .sym 0, .sym 1]) ⟨_, _, rfl, hr, _, _, rfl, rfl, _, _, rfl, rfl, rfl⟩ hrun

theorem treeNone_any (root : Int) (key val : ByteArray) (w : World) : Calls Go.Proofs.Tryz.prog 3 #[.int .i64 root, .string key, .string val] w (TrueP w) := by
  by_cases hk : (100 : Int) < key.size
  · exact tz_call (ra := .sym 4) rfl (List.forall_mem_cons.2 ⟨tzLenK, List.forall_mem_cons.2 ⟨tzK (decide_eq_true hk), fun f h => by cases h⟩⟩) tzRunA
  · by_cases hv : (100 : Int) < val.size
    · exact tz_call (ra := .sym 4) rfl (List.forall_mem_cons.2 ⟨tzLenK, List.forall_mem_cons.2 ⟨tzK (decide_eq_false hk), List.forall_mem_cons.2 ⟨tzLenV, List.forall_mem_cons.2 ⟨tzV (decide_eq_true hv), fun f h => by cases h⟩⟩⟩⟩) tzRunB
    · by_cases hn : root < 0
      · refine tz_call (facts := tzFN (decide (root.tmod 2 = 1))) (ra := .sym 4) rfl (List.forall_mem_cons.2 ⟨tzLenK, List.forall_mem_cons.2 ⟨tzK (decide_eq_false hk), List.forall_mem_cons.2 ⟨tzLenV, List.forall_mem_cons.2 ⟨tzV (decide_eq_false hv),
          List.forall_mem_cons.2 ⟨tzGe (decide_eq_false (by omega)), List.forall_mem_cons.2 ⟨tzLt (decide_eq_true (by omega)), List.forall_mem_cons.2 ⟨tzLt (decide_eq_true hn), List.forall_mem_cons.2 ⟨tzGe (decide_eq_false (by omega)),
          List.forall_mem_cons.2 ⟨tzRem, List.forall_mem_cons.2 ⟨tzOdd, fun f h => by cases h⟩⟩⟩⟩⟩⟩⟩⟩⟩⟩) ?_
        cases decide (root.tmod 2 = 1)
        · exact tzRunNf
        · exact tzRunNt
      · by_cases hp : root < 16
        · obtain ⟨r, rfl⟩ := Int.eq_ofNat_of_zero_le (show 0 ≤ root by omega)
          exact tz_call (facts := tzFR (decide ((81 : Int) < key.size))) (ra := .int .i64 (.ofNat r)) rfl (List.forall_mem_cons.2 ⟨tzLenK, List.forall_mem_cons.2 ⟨tzK (decide_eq_false hk), List.forall_mem_cons.2 ⟨tzLenV, List.forall_mem_cons.2 ⟨tzV (decide_eq_false hv),
            List.forall_mem_cons.2 ⟨tzK rfl, List.forall_mem_cons.2 ⟨tzV (decide_eq_false (by omega)), fun f h => by cases h⟩⟩⟩⟩⟩⟩) (tzRunR _ r (by omega))
        · refine tz_call (facts := tzFP (decide (root.tmod 2 = 1))) (ra := .sym 4) rfl (List.forall_mem_cons.2 ⟨tzLenK, List.forall_mem_cons.2 ⟨tzK (decide_eq_false hk), List.forall_mem_cons.2 ⟨tzLenV, List.forall_mem_cons.2 ⟨tzV (decide_eq_false hv),
            List.forall_mem_cons.2 ⟨tzGe (decide_eq_true (by omega)), List.forall_mem_cons.2 ⟨tzLt (decide_eq_false hp), List.forall_mem_cons.2 ⟨tzLt (decide_eq_false hn), List.forall_mem_cons.2 ⟨tzGe (decide_eq_true (by omega)),
            List.forall_mem_cons.2 ⟨tzRem, List.forall_mem_cons.2 ⟨tzOdd, fun f h => by cases h⟩⟩⟩⟩⟩⟩⟩⟩⟩⟩) ?_
          cases decide (root.tmod 2 = 1)
          · exact tzRunPf
          · exact tzRunPt
end Go.Eng
