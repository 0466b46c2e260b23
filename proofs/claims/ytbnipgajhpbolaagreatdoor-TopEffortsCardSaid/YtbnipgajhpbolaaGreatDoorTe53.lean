/- TopEfforts' row: its closed facts, one by one -/
import Derived.Test.YtbnipgajhpbolaaGreatDoorRows
import Derived.Test.YtbnipgajhpbolaaGreatDoorChecked
import Derived.JoinedOf
import Derived.KernelRfl
set_option linter.unusedVariables false
set_option linter.unusedSimpArgs false
namespace Go.Proofs.YtbnipgajhpbolaaGreatDoor

section
set_option maxRecDepth 100000
theorem kE1 : Rows.topEffortsRow.wf (OpenSpec.ofChange Rows.topEffortsSpec) = true := by kernel_rfl
theorem kE2 : laidOutB Tryz.prog = true := by kernel_rfl
theorem kE3 : mapsRowed Tryz.prog = true := by kernel_rfl
theorem kE4 : Tryz.f5.params.all (Tryz.prog.readableRec ·) = true := by kernel_rfl
theorem kE5 : namedTie Tryz.prog Rows.topEffortsRow.named Rows.topEffortsSpec.vars = true := by kernel_rfl
theorem kE10 : (Rows.topEffortsRow.inPlace == Tryz.prog.inPlace 5) = true := by kernel_rfl
theorem kE11 : (Rows.topEffortsRow.unfollowed == Tryz.prog.unfollowed 5) = true := by kernel_rfl
theorem kE12 : (Rows.topEffortsRow.recurses == Tryz.prog.recurses 5) = true := by kernel_rfl
theorem kE13 : (Rows.topEffortsRow.named == Tryz.prog.varsNamed 5) = true := by kernel_rfl
theorem kE14 : (Rows.topEffortsRow.maps == (Tryz.f5.params.toList ++ Rows.topEffortsSpec.plain.varTypes Tryz.prog).any (Tryz.prog.mapsRec ·)) = true := by kernel_rfl
theorem kE15 : (Rows.topEffortsRow.loops == (Tryz.f5.params.toList ++ Rows.topEffortsSpec.plain.varTypes Tryz.prog).any (Tryz.prog.loopsFrom ·)) = true := by kernel_rfl
theorem kE16 : (Rows.topEffortsRow.wideKeys == (Tryz.f5.params.toList ++ Rows.topEffortsSpec.plain.varTypes Tryz.prog ++ Tryz.f5.resultTypes.toList).any (Tryz.prog.wideKeysFrom ·)) = true := by kernel_rfl
theorem kE17 : Rows.topEffortsSpec.vars.all (Tryz.prog.varReadable ·) = true := by kernel_rfl
theorem kE18 : (Rows.topEffortsRow.plainKeys == Tryz.prog.plainKeys) = true := by kernel_rfl
theorem kE19 : Tryz.prog.stopsHeard = true := by kernel_rfl
theorem kE20 : Tryz.prog.mayEnter = true := by kernel_rfl
theorem kE21 : (Rows.topEffortsRow.lifted == Tryz.prog.liftsFinal) = true := by kernel_rfl
theorem kE22 : (Tryz.prog.make == some Rows.topEffortsRow.make) = true := by kernel_rfl
theorem kE23 : (Rows.topEffortsRow.pinned == Rows.topEffortsRow.pinnedBy) = true := by kernel_rfl
theorem kE24 : (Rows.topEffortsRow.veiled == (Tryz.f5.params.toList ++ Rows.topEffortsSpec.plain.varTypes Tryz.prog ++ Tryz.f5.resultTypes.toList).any (Tryz.prog.veiledRec ·)) = true := by kernel_rfl
theorem kE25 : Rows.topEffortsRow.veiledFits Tryz.prog Tryz.f5.params.toList (Tryz.f5.params.toList ++ Rows.topEffortsSpec.plain.varTypes Tryz.prog ++ Tryz.f5.resultTypes.toList) = true := by kernel_rfl
theorem closedE : joinedFacts Tryz.prog 5 Tryz.f5 Rows.topEffortsSpec Rows.topEffortsRow = true := by
  unfold joinedFacts
  rw [kE1, kE2, kE3, kE4, kE5, kE10, kE11, kE12, kE13, kE14, kE15, kE16, kE17, kE18, kE19, kE20, kE21, kE22, kE23, kE24, kE25]
  kernel_rfl
end

end Go.Proofs.YtbnipgajhpbolaaGreatDoor
