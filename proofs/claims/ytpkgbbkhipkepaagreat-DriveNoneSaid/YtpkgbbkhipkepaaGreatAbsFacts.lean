/-
  CLOSED FACTS OF THIS PROGRAM, one by one (together they are too great for one declaration).
-/
import Derived.Test.YtpkgbbkhipkepaaGreatRows
import Derived.ProofKit
namespace Go.Proofs.YtpkgbbkhipkepaaGreat
open Go.ChangeShapes Go.WideShapes Go.ChangeAt Go.RowKit

theorem Tryz.own : ownKnob Tryz.prog.godebug = none := by kernel_rfl
theorem Tryz.laidOut : laidOutB Tryz.prog = true := by kernel_rfl
theorem Tryz.rowed : mapsRowed Tryz.prog = true := by kernel_rfl
theorem Tryz.noStops : (Tryz.prog.stops == []) = true := by kernel_rfl
theorem Tryz.noKnobs : (Tryz.prog.stopKnobs == []) = true := by kernel_rfl
theorem Tryz.plain : Tryz.prog.plainKeys = false := by kernel_rfl
theorem Tryz.heard : Tryz.prog.stopsHeard = true := by kernel_rfl
theorem Tryz.enters : Tryz.prog.mayEnter = true := by kernel_rfl
theorem Tryz.lifts : (false == Tryz.prog.liftsFinal) = true := by kernel_rfl
theorem Tryz.maker : (Tryz.prog.make == some Rows.driveNoneRow.make) = true := by kernel_rfl

end Go.Proofs.YtpkgbbkhipkepaaGreat
