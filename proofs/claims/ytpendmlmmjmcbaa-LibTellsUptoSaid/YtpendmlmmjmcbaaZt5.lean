/- A part of the proof: texts of mine, merged by a program (wip/dev/merge.py). -/
import Derived.Test.YtpendmlmmjmcbaaZt4
/- Closed calls of the law LibTells, gone through by the abstract machine within the kernel. -/
namespace Go.Lib
open Go Go.Am Go.Proofs
theorem t_abp0 : call 4 [.str [97, 98, 112], .int .i64 0] [] = some ([.d (.bool true)], []) := callX_iff.2 ⟨60, by kernel_rfl⟩
theorem t_abp1 : call 4 [.str [97, 98, 112], .int .i64 1] [] = some ([.d (.bool true)], []) := callX_iff.2 ⟨60, by kernel_rfl⟩
theorem t_abp2 : call 4 [.str [97, 98, 112], .int .i64 2] [] = some ([.d (.bool true)], []) := callX_iff.2 ⟨60, by kernel_rfl⟩
theorem t_abp3 : call 4 [.str [97, 98, 112], .int .i64 3] [] = some ([.d (.bool true)], []) := callX_iff.2 ⟨60, by kernel_rfl⟩
theorem t_x0 : call 4 [.str [], .int .i64 0] [] = some ([.d (.bool true)], []) := callX_iff.2 ⟨60, by kernel_rfl⟩
end Go.Lib
