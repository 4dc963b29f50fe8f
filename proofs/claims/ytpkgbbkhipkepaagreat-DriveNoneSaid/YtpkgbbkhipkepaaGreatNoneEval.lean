/-
  DriveNone, run by the kernel: it answers true.
-/
import Derived.Test.YtpkgbbkhipkepaaGreatAbsRow
namespace Go.Proofs.YtpkgbbkhipkepaaGreat
open Go.Abs

theorem driveNone_eval (a b : Int) : okTrue (callK tab 4000 (.f 12) [.int .i64 a, .int .i64 b] AH.empty) = true := by kernel_rfl

end Go.Proofs.YtpkgbbkhipkepaaGreat
