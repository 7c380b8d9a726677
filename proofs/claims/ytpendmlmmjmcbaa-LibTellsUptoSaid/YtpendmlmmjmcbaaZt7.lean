/- A part of the proof: texts of mine, merged by a program (wip/dev/merge.py). -/
import Derived.Test.YtpendmlmmjmcbaaZt6
/- Closed calls of the law LibTells, gone through by the abstract machine within the kernel. -/
namespace Go.Lib
open Go Go.Am Go.Proofs
theorem t_pair0 : call 4 [.str [112, 97, 105, 114], .int .i64 0] [] = some ([.d (.bool true)], []) := callX_iff.2 ⟨60, by kernel_rfl⟩
theorem t_pair1 : call 4 [.str [112, 97, 105, 114], .int .i64 1] [] = some ([.d (.bool true)], []) := callX_iff.2 ⟨60, by kernel_rfl⟩
theorem t_pair2 : call 4 [.str [112, 97, 105, 114], .int .i64 2] [] = some ([.d (.bool true)], []) := callX_iff.2 ⟨60, by kernel_rfl⟩
theorem t_pair3 : call 4 [.str [112, 97, 105, 114], .int .i64 3] [] = some ([.d (.bool true)], []) := callX_iff.2 ⟨60, by kernel_rfl⟩
theorem t_toss0 : call 4 [.str [116, 111, 115, 115], .int .i64 0] [] = some ([.d (.bool true)], []) := callX_iff.2 ⟨60, by kernel_rfl⟩
theorem t_toss1 : call 4 [.str [116, 111, 115, 115], .int .i64 1] [] = some ([.d (.bool true)], []) := callX_iff.2 ⟨60, by kernel_rfl⟩
theorem t_toss2 : call 4 [.str [116, 111, 115, 115], .int .i64 2] [] = some ([.d (.bool true)], []) := callX_iff.2 ⟨60, by kernel_rfl⟩
theorem t_toss3 : call 4 [.str [116, 111, 115, 115], .int .i64 3] [] = some ([.d (.bool true)], []) := callX_iff.2 ⟨60, by kernel_rfl⟩
end Go.Lib
