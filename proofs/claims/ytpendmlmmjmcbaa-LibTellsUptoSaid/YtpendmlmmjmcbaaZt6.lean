/- A part of the proof: texts of mine, merged by a program (wip/dev/merge.py). -/
import Derived.Test.YtpendmlmmjmcbaaZt5
/- Closed calls of the law LibTells, gone through by the abstract machine within the kernel. -/
namespace Go.Lib
open Go Go.Am Go.Proofs
theorem t_mutex0 : call 4 [.str [109, 117, 116, 101, 120], .int .i64 0] [] = some ([.d (.bool true)], []) := callX_iff.2 ⟨60, by kernel_rfl⟩
theorem t_mutex2 : call 4 [.str [109, 117, 116, 101, 120], .int .i64 2] [] = some ([.d (.bool true)], []) := callX_iff.2 ⟨60, by kernel_rfl⟩
theorem t_mutex3 : call 4 [.str [109, 117, 116, 101, 120], .int .i64 3] [] = some ([.d (.bool true)], []) := callX_iff.2 ⟨60, by kernel_rfl⟩
theorem t_ring0 : call 4 [.str [114, 105, 110, 103], .int .i64 0] [] = some ([.d (.bool true)], []) := callX_iff.2 ⟨60, by kernel_rfl⟩
theorem t_ring2 : call 4 [.str [114, 105, 110, 103], .int .i64 2] [] = some ([.d (.bool true)], []) := callX_iff.2 ⟨60, by kernel_rfl⟩
theorem t_ring3 : call 4 [.str [114, 105, 110, 103], .int .i64 3] [] = some ([.d (.bool true)], []) := callX_iff.2 ⟨60, by kernel_rfl⟩
end Go.Lib
