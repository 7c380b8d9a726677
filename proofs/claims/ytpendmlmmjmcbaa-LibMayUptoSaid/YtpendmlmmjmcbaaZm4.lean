/- A part of the proof: texts of mine, merged by a program (wip/dev/merge.py). -/
import Derived.Test.YtpendmlmmjmcbaaZm3
import Derived.Test.YtpendmlmmjmcbaaChecked
import Derived.KernelRfl
/- The abstract machine over this program: hints, facts of its types, an equation for each function. Printed by a program of mine (wip/dev/Gen.lean). -/
namespace Go.Lib
open Go Go.Am Go.Proofs
noncomputable abbrev P : Program := Try.prog
/-- lariat/lariatlaw49.LibMay -/
def hint3 : Hint := { nv := 11, objs := [], keep := [11, 24, 32, 35, 46, 53, 66, 71], lits := [], own := false, live := fun id => (Am.look [(0, [0, 1]), (1, [0, 1, 5]), (2, [0, 1, 5, 14]), (3, [4]), (4, [1, 6]), (5, [6, 7, 8]), (6, [6, 7, 8, 28]), (7, [4]), (8, [7, 9]), (9, [7, 9, 10]), (10, [7, 9, 10, 39]), (11, [7, 9, 10]), (12, [7, 9, 10, 60]), (13, [4]), (14, [4])] id).getD [] }
/-- lariat/lariatlaw49.LibTells -/
def hint4 : Hint := { nv := 12, objs := [], keep := [15, 19, 25, 29, 31, 38, 49, 50, 51, 68, 70], lits := [], own := false, live := fun id => (Am.look [(0, [0, 1]), (1, [0, 1, 14]), (2, [4]), (3, [0, 1, 5, 6]), (4, [0, 5, 6, 7, 8]), (5, [5, 6, 7, 8, 9, 10]), (6, [9, 10, 53]), (7, [4]), (8, [9, 10, 11]), (9, [9, 10, 11, 57]), (10, [9, 10, 11]), (11, [9, 10, 11, 69]), (12, [4]), (13, [4])] id).getD [] }
/-- lariat/lib.Names -/
def hint5 : Hint := { nv := 4, objs := [], keep := [], lits := [13], own := false, live := fun id => (Am.look [(0, []), (1, [1]), (2, [1, 4, 5, 6]), (3, [1, 4, 5, 6, 7]), (4, [1, 3, 4, 5, 6]), (5, [1, 4, 5, 6]), (6, [1, 4, 5, 6]), (7, [0])] id).getD [] }
/-- lariat/lib.Model -/
def hint6 : Hint := { nv := 8, objs := [], keep := [], lits := [], own := false, live := fun id => (Am.look [(0, [0, 1, 4]), (1, [0, 1, 4, 8, 9, 10]), (2, [0, 1, 4, 8, 9, 10, 11]), (3, [0, 1, 4, 7, 8, 9, 10]), (4, [0, 1, 4, 7, 8, 9, 10, 17]), (5, [1, 4, 7, 25]), (6, [4, 5]), (7, [4, 5]), (8, [0, 1, 4, 8, 9, 10]), (9, [4, 5])] id).getD [] }
/-- lariat/lariatlaw49.awake -/
def hint7 : Hint := { nv := 7, objs := [], keep := [8, 12, 16, 42], lits := [], own := false, live := fun id => (Am.look [(0, []), (1, [1, 2]), (2, [1, 2, 4]), (3, [1, 2, 4, 6]), (4, [0])] id).getD [] }
/-- lariat/lib.Formulas -/
def hint8 : Hint := { nv := 5, objs := [], keep := [], lits := [], own := false, live := fun id => (Am.look [(0, [0]), (1, [0, 5, 6, 7]), (2, [0, 5, 6, 7, 8]), (3, [0, 4, 5, 6, 7]), (4, [0, 4, 5, 6, 7, 14]), (5, [2]), (6, [0, 5, 6, 7]), (7, [2])] id).getD [] }
/-- lariat/lariatref23.Check -/
def hint9 : Hint := { nv := 2, objs := [], keep := [7], lits := [], own := false, live := fun id => (Am.look [(0, [0]), (1, [0, 5]), (2, [2]), (3, [2])] id).getD [] }
/-- lariat/lariatref23.Props -/
def hint10 : Hint := { nv := 5, objs := [], keep := [6], lits := [], own := false, live := fun id => (Am.look [(0, [0]), (1, [0, 3]), (2, [0, 3, 7]), (3, [2]), (4, [0, 3, 4]), (5, [0, 3, 4, 11]), (6, [0, 3, 4]), (7, [0, 3, 4, 19]), (8, [0, 3, 4]), (9, [2])] id).getD [] }
/-- lariat/lariatref15.Check -/
def hint11 : Hint := { nv := 10, objs := [], keep := [11, 26, 33, 56], lits := [], own := false, live := fun id => (Am.look [(0, [1, 2]), (1, [1, 2, 3]), (2, [1, 2, 3, 4]), (3, [1, 2, 3, 4, 21]), (4, [1, 2, 3, 4]), (5, [1, 2, 3, 4]), (6, [1, 2, 3, 29]), (7, [2]), (8, [1, 2, 5, 7]), (9, [1, 2, 42]), (10, [2]), (11, [1, 2, 8]), (12, [1, 2, 8, 51]), (13, [1, 2, 8]), (14, [1, 2, 8, 9]), (15, [1, 2, 8, 9, 58]), (16, [2]), (17, [2])] id).getD [] }
/-- lariat/lariatref49.Model -/
def hint12 : Hint := { nv := 10, objs := [], keep := [16, 47, 51, 55, 59, 61], lits := [], own := false, live := fun id => (Am.look [(0, [0, 1, 4]), (1, [0, 1, 4, 6]), (2, [0, 1, 4, 6, 15]), (3, [0, 1, 4, 6]), (4, [0, 1, 4, 6, 7]), (5, [0, 1, 4, 6, 7, 8]), (6, [0, 1, 4, 6, 7, 8, 9]), (7, [0, 1, 4, 6, 7, 8, 9, 20]), (8, [0, 1, 4, 6, 7, 8, 9]), (9, [0, 1, 4, 6, 7, 8, 9]), (10, [0, 1, 4, 6, 33]), (11, [4, 5]), (12, [0, 1, 4, 41]), (13, [4, 5]), (14, [1, 4, 43]), (15, [1, 4, 43, 44]), (16, [4, 5]), (17, [1, 4, 43, 48]), (18, [4, 5]), (19, [1, 4, 43, 52]), (20, [4, 5]), (21, [1, 4, 56]), (22, [4, 5]), (23, [4, 5])] id).getD [] }
/-- lariat/lariatref49.Formulas -/
def hint13 : Hint := { nv := 5, objs := [], keep := [5, 6, 7, 8, 12, 13, 15, 20, 21, 22, 23, 27, 28, 30, 31, 35, 36, 37, 38, 42, 43, 44, 46], lits := [], own := false, live := fun id => (Am.look [(0, [0]), (1, [0, 3]), (2, [0, 3, 4]), (3, [3, 4, 9]), (4, [3, 4, 9, 10]), (5, [2]), (6, [4, 9, 17]), (7, [2]), (8, [4, 9, 25]), (9, [2]), (10, [4, 9, 33]), (11, [2]), (12, [4, 40]), (13, [2]), (14, [2])] id).getD [] }
/-- lariat/lariatref15.Same -/
def hint14 : Hint := { nv := 9, objs := [], keep := [21, 104, 139], lits := [], own := false, live := fun id => (Am.look [(0, [2, 3]), (1, [2, 3, 50]), (2, [4]), (3, [2, 3, 5]), (4, [2, 3, 5, 55]), (5, [2, 3, 5]), (6, [2, 3, 5, 68]), (7, [4]), (8, [2, 3, 6]), (9, [2, 3, 6, 73]), (10, [2, 3, 6]), (11, [2, 3, 6, 86]), (12, [4]), (13, [2, 3, 7]), (14, [2, 3, 7, 91]), (15, [2, 3, 7]), (16, [2, 3, 7, 105]), (17, [4]), (18, [2, 3, 8]), (19, [2, 3, 8, 110]), (20, [2, 3, 8]), (21, [2, 3, 8, 141]), (22, [4]), (23, [4])] id).getD [] }
/-- slices.Equal[[]string,string] -/
def hint15 : Hint := { nv := 6, objs := [], keep := [], lits := [], own := false, live := fun id => (Am.look [(0, [0, 1]), (1, [0, 1, 10]), (2, [4]), (3, [0, 1, 12, 13]), (4, [0, 1, 12, 13, 14]), (5, [0, 1, 5, 12, 13]), (6, [0, 1, 12, 13, 24]), (7, [4]), (8, [0, 1, 12, 13]), (9, [4])] id).getD [] }
/-- lariat/lariatref49.Names -/
def hint16 : Hint := { nv := 0, objs := [], keep := [], lits := [], own := false, live := fun id => (Am.look [(0, []), (1, [0])] id).getD [] }
/-- slices.Equal[[]lariat/api.Node,lariat/api.Node] -/
def hint17 : Hint := { nv := 6, objs := [], keep := [], lits := [], own := false, live := fun id => (Am.look [(0, [0, 1]), (1, [0, 1, 10]), (2, [4]), (3, [0, 1, 12, 13]), (4, [0, 1, 12, 13, 14]), (5, [0, 1, 5, 12, 13]), (6, [0, 1, 12, 13, 24]), (7, [4]), (8, [0, 1, 12, 13]), (9, [4])] id).getD [] }
/-- lariat/lib.entries -/
def hint18 : Hint := { nv := 5, objs := [], keep := [26, 34], lits := [11, 19, 25, 27, 33, 35, 43], own := false, live := fun id => (Am.look [(0, []), (1, [1]), (2, [1, 2]), (3, [1, 2, 3]), (4, [1, 2, 3, 4]), (5, [0])] id).getD [] }
/-- lariat/lariatref23.wrong -/
def hint19 : Hint := { nv := 6, objs := [], keep := [20], lits := [], own := false, live := fun id => (Am.look [(0, [0]), (1, [0, 8]), (2, [2]), (3, [0, 3]), (4, [0, 3, 4]), (5, [0, 3, 4, 12]), (6, [0, 3, 4]), (7, [0, 3, 4, 5]), (8, [0, 3, 4, 5, 22]), (9, [2]), (10, [0, 3, 4, 5, 25]), (11, [2]), (12, [0, 3, 4, 5, 47]), (13, [2]), (14, [0, 3, 4]), (15, [53]), (16, [2]), (17, [2])] id).getD [] }
/-- lariat/lariatref23.Is -/
def hint20 : Hint := { nv := 2, objs := [], keep := [4], lits := [], own := false, live := fun id => (Am.look [(0, [0]), (1, [2])] id).getD [] }
/-- lariat/lariatref15.data -/
def hint21 : Hint := { nv := 11, objs := [], keep := [14, 37, 47, 54, 72, 82, 89], lits := [], own := false, live := fun id => (Am.look [(0, [1, 2]), (1, [1, 2, 3, 4]), (2, [1, 2, 3, 4, 18]), (3, [2]), (4, [1, 2, 5]), (5, [1, 2, 5, 26]), (6, [1, 2, 5]), (7, [1, 2, 5, 7]), (8, [1, 2, 5, 7, 41]), (9, [2]), (10, [1, 2, 5, 54]), (11, [2]), (12, [1, 2, 8]), (13, [1, 2, 8, 61]), (14, [1, 2, 8]), (15, [1, 2, 8, 10]), (16, [1, 2, 8, 10, 76]), (17, [2]), (18, [1, 2, 8, 89]), (19, [2]), (20, [2])] id).getD [] }
/-- lariat/lariatref15.process -/
def hint22 : Hint := { nv := 10, objs := [], keep := [23, 24, 39, 42, 53, 60], lits := [], own := false, live := fun id => (Am.look [(0, [1, 2, 4]), (1, [1, 2, 4, 11]), (2, [4]), (3, [1, 2, 4, 5]), (4, [1, 2, 4, 5, 6, 7, 8]), (5, [1, 2, 4, 5, 6, 7, 8, 29]), (6, [4]), (7, [1, 2, 4, 5, 42]), (8, [4]), (9, [1, 2, 4, 5, 9]), (10, [1, 2, 4, 5, 9, 49]), (11, [1, 2, 4, 5, 9]), (12, [1, 2, 4, 5, 9, 60]), (13, [4]), (14, [4])] id).getD [] }
/-- lariat/lariatref15.Pieces -/
def hint23 : Hint := { nv := 12, objs := [], keep := [27, 60], lits := [], own := false, live := fun id => (Am.look [(0, [1]), (1, [1, 5, 6, 7]), (2, [1, 5, 6, 7, 8]), (3, [1, 5, 6, 7, 8, 16]), (4, [1, 5, 6, 7, 8]), (5, [1, 5, 6, 7, 8]), (6, [1, 5, 6, 7, 9]), (7, [1, 5, 6, 7, 9, 33]), (8, [1, 5, 6, 7, 9]), (9, [1, 5, 6, 7, 9]), (10, [1, 5, 6, 7, 10]), (11, [1, 5, 6, 7, 10, 51]), (12, [1, 5, 6, 7, 10]), (13, [1, 5, 6, 7, 10, 11]), (14, [1, 5, 6, 7, 10, 11]), (15, [1, 5, 6, 7, 10, 11]), (16, [1, 5, 6, 7, 10]), (17, [2, 3, 4])] id).getD [] }
/-- lariat/lariatref15.proposition -/
def hint24 : Hint := { nv := 8, objs := [], keep := [17, 21, 24, 37], lits := [], own := false, live := fun id => (Am.look [(0, [1, 2]), (1, [1, 2, 9]), (2, [4]), (3, [1, 2, 5]), (4, [1, 2, 5, 18]), (5, [4]), (6, [2, 5, 24]), (7, [4]), (8, [6, 7]), (9, [6, 7, 41]), (10, [4]), (11, [44]), (12, [4]), (13, [4])] id).getD [] }
/-- lariat/lariatref49.abp -/
def hint25 : Hint := { nv := 5, objs := [], keep := [5, 6, 8, 12, 15, 16, 17, 18, 19, 20, 21, 24, 25, 26, 27, 28, 31, 32, 36, 37, 38, 39, 40, 41, 42, 45, 46, 47, 48, 49, 50, 54, 58, 60, 65, 67], lits := [7, 9, 11, 14, 23, 29, 33, 35, 44, 51, 53, 55, 61, 69], own := false, live := fun id => (Am.look [(0, [0, 2]), (1, [0, 2, 3]), (2, [0, 2, 3, 4]), (3, [2])] id).getD [] }
/-- lariat/lariatref49.mutex -/
def hint26 : Hint := { nv := 6, objs := [], keep := [10, 11, 13, 17, 21, 25, 30, 32, 33, 34], lits := [22, 27, 36], own := false, live := fun id => (Am.look [(0, [0, 2]), (1, [0, 2, 3]), (2, [0, 2, 3, 4]), (3, [0, 2, 5]), (4, [2])] id).getD [] }
/-- lariat/lariatref49.pair -/
def hint27 : Hint := { nv := 6, objs := [], keep := [6, 10, 13, 14, 16, 21, 28, 30, 32], lits := [7, 9, 12, 17, 22, 34], own := false, live := fun id => (Am.look [(0, [0, 2]), (1, [0, 2, 3]), (2, [0, 2, 3, 4]), (3, [0, 2, 3, 4, 5]), (4, [2])] id).getD [] }
/-- lariat/lariatref49.ring -/
def hint28 : Hint := { nv := 7, objs := [], keep := [11, 13, 18, 22, 26, 30, 36], lits := [19, 27, 33], own := false, live := fun id => (Am.look [(0, [0, 2]), (1, [0, 2, 3]), (2, [0, 2, 3, 4]), (3, [0, 2, 3, 4, 5]), (4, [0, 2, 5, 6]), (5, [2])] id).getD [] }
/-- lariat/lariatref49.toss -/
def hint29 : Hint := { nv := 6, objs := [], keep := [20, 21, 29, 37], lits := [22, 24, 35], own := false, live := fun id => (Am.look [(0, [0, 2]), (1, [0, 2, 3]), (2, [0, 2, 3, 4]), (3, [0, 2, 3, 4, 5]), (4, [0, 2, 3, 4, 5, 10]), (5, [0, 2, 3, 4, 5]), (6, [0, 2, 3, 4, 5]), (7, [0, 2, 3, 4, 5]), (8, [0, 2, 3, 4, 5, 32]), (9, [0, 2, 3, 4, 5]), (10, [2, 3]), (11, [2])] id).getD [] }
/-- lariat/lariatref49.of -/
def hint30 : Hint := { nv := 6, objs := [], keep := [], lits := [12], own := false, live := fun id => (Am.look [(0, [0, 1]), (1, [0, 1, 5]), (2, [0, 5]), (3, [4])] id).getD [] }
/-- lariat/lariatref49.prop -/
def hint31 : Hint := { nv := 2, objs := [], keep := [], lits := [], own := false, live := fun id => (Am.look [(0, [0]), (1, [2])] id).getD [] }
/-- lariat/lariatref49.again -/
def hint32 : Hint := { nv := 2, objs := [], keep := [4, 5, 6], lits := [], own := false, live := fun id => (Am.look [(0, [0]), (1, [2])] id).getD [] }
/-- lariat/lariatref49.later -/
def hint33 : Hint := { nv := 4, objs := [], keep := [6, 8, 9, 10, 11], lits := [], own := false, live := fun id => (Am.look [(0, [0, 1]), (1, [4])] id).getD [] }
/-- lariat/lariatref15.vars -/
def hint34 : Hint := { nv := 6, objs := [], keep := [], lits := [], own := false, live := fun id => (Am.look [(0, [0, 1]), (1, [0, 1, 10]), (2, [4]), (3, [0, 1, 5]), (4, [0, 1, 5, 14]), (5, [0, 1, 5]), (6, [0, 1, 5, 25]), (7, [4]), (8, [4])] id).getD [] }
/-- lariat/lariatref15.proc -/
def hint35 : Hint := { nv := 6, objs := [], keep := [30, 59], lits := [], own := false, live := fun id => (Am.look [(0, [2, 3]), (1, [2, 3, 41]), (2, [4]), (3, [2, 3, 5]), (4, [2, 3, 5, 46]), (5, [2, 3, 5]), (6, [2, 3, 5, 60]), (7, [4]), (8, [4])] id).getD [] }
/-- lariat/lariatref15.Nodes -/
def hint36 : Hint := { nv := 6, objs := [], keep := [], lits := [], own := false, live := fun id => (Am.look [(0, [0, 1]), (1, [0, 1, 10]), (2, [4]), (3, [0, 1, 5]), (4, [0, 1, 5, 14]), (5, [0, 1, 5]), (6, [0, 1, 5, 25]), (7, [4]), (8, [4])] id).getD [] }
/-- lariat/lib.entries$1 -/
def hint37 : Hint := { nv := 2, objs := [], keep := [5], lits := [4], own := false, live := fun id => (Am.look [(0, [0]), (1, [2])] id).getD [] }
/-- lariat/lib.form -/
def hint38 : Hint := { nv := 6, objs := [], keep := [16, 22], lits := [17, 23], own := false, live := fun id => (Am.look [(0, [0]), (1, [0, 3]), (2, [3, 6, 7, 8]), (3, [3, 6, 7, 8, 9]), (4, [3, 5, 6, 7, 8]), (5, [3, 5, 6, 7, 8, 13]), (6, [3, 6, 7, 8]), (7, [3, 6, 7, 8]), (8, [3, 6, 7, 8]), (9, [2])] id).getD [] }
/-- lariat/lib.entries$2 -/
def hint39 : Hint := { nv := 4, objs := [], keep := [8], lits := [7], own := false, live := fun id => (Am.look [(0, [0, 1]), (1, [4])] id).getD [] }
/-- lariat/lib.entries$3 -/
def hint40 : Hint := { nv := 2, objs := [], keep := [5], lits := [4], own := false, live := fun id => (Am.look [(0, [0]), (1, [2])] id).getD [] }
/-- lariat/lib.entries$4 -/
def hint41 : Hint := { nv := 2, objs := [], keep := [5], lits := [4], own := false, live := fun id => (Am.look [(0, [0]), (1, [2])] id).getD [] }
/-- lariat/lib.abp -/
def hint42 : Hint := { nv := 10, objs := [3, 4], keep := [10, 11, 15, 16, 18, 21, 24, 30, 33, 36, 37, 41, 47, 50, 51, 54, 58, 60, 65, 66, 68, 69], lits := [17, 20, 23, 29, 34, 38, 40, 46, 53, 55, 61, 71], own := false, live := fun id => (Am.look [(0, [0, 2]), (1, [0, 2, 3, 4]), (2, [0, 2, 3, 4, 5]), (3, [0, 2, 3, 4, 5, 6]), (4, [0, 2, 5, 6, 7]), (5, [0, 2, 5, 6, 7, 8]), (6, [0, 2, 8, 9]), (7, [2])] id).getD [] }
/-- lariat/lib.mutex -/
def hint43 : Hint := { nv := 5, objs := [], keep := [5, 7, 10, 13, 14, 15, 16, 19, 22, 26, 27, 29, 30], lits := [12, 23, 25, 32], own := false, live := fun id => (Am.look [(0, [0, 2]), (1, [0, 2, 3]), (2, [0, 2, 3, 4]), (3, [2])] id).getD [] }
/-- lariat/lib.pair -/
def hint44 : Hint := { nv := 2, objs := [], keep := [4, 6, 9, 12, 16, 17, 21, 22, 24, 25], lits := [5, 8, 10, 13, 15, 18, 20, 27], own := false, live := fun id => (Am.look [(0, [0, 2]), (1, [2])] id).getD [] }
/-- lariat/lib.ring -/
def hint45 : Hint := { nv := 6, objs := [], keep := [6, 7, 10, 17, 21, 23, 26, 30, 31], lits := [13, 25, 27, 29, 36], own := false, live := fun id => (Am.look [(0, [0, 2]), (1, [0, 2, 3]), (2, [0, 2, 3, 4]), (3, [0, 2, 3, 4, 5]), (4, [2])] id).getD [] }
/-- lariat/lib.toss -/
def hint46 : Hint := { nv := 6, objs := [], keep := [26, 27, 32, 36, 37], lits := [19, 21, 33], own := false, live := fun id => (Am.look [(0, [0, 2]), (1, [0, 2, 3]), (2, [0, 2, 3, 4]), (3, [2, 3, 4, 6, 7]), (4, [2, 3, 4, 6, 7, 8]), (5, [2, 3, 4, 5, 6, 7]), (6, [2, 3, 4, 5, 6, 7]), (7, [2, 3, 4, 5, 6, 7]), (8, [2, 3, 4, 6, 7, 30]), (9, [2, 3, 4, 6, 7]), (10, [2, 3, 4, 6, 7]), (11, [2, 3]), (12, [2])] id).getD [] }
/-- lariat/lariatref23.takes -/
def hint47 : Hint := { nv := 2, objs := [], keep := [], lits := [], own := false, live := fun id => (Am.look [(0, [0]), (1, [3]), (2, [3, 4]), (3, [3, 4]), (4, [3, 4]), (5, [2]), (6, [3, 8]), (7, [3, 8]), (8, [3, 8]), (9, [3, 8]), (10, [2]), (11, [3, 13]), (12, [3, 13]), (13, [3, 13]), (14, [3, 13]), (15, [13]), (16, [2]), (17, [2])] id).getD [] }
/-- lariat/lariatref12.Scalars -/
def hint48 : Hint := { nv := 6, objs := [], keep := [20], lits := [], own := false, live := fun id => (Am.look [(0, [0]), (1, [0, 4]), (2, [0, 4, 9]), (3, [0, 4]), (4, [0, 4, 13]), (5, [2, 3]), (6, [0, 4, 21]), (7, [2, 3]), (8, [0, 4, 5]), (9, [0, 4, 5, 25]), (10, [0, 4, 5]), (11, [0, 4, 5, 38]), (12, [2, 3]), (13, [0, 4, 53]), (14, [2, 3]), (15, [2, 3])] id).getD [] }
/-- lariat/lariatref12.Vars -/
def hint49 : Hint := { nv := 11, objs := [], keep := [26, 51], lits := [], own := false, live := fun id => (Am.look [(0, [0, 1, 2]), (1, [0, 1, 2, 8]), (2, [0, 1, 2, 8, 14]), (3, [0, 1, 2, 8]), (4, [0, 1, 2, 8, 19]), (5, [6, 7]), (6, [0, 1, 2, 8, 27]), (7, [6, 7]), (8, [0, 1, 2, 8, 9]), (9, [0, 1, 2, 8, 9, 31]), (10, [0, 1, 2, 8, 9]), (11, [0, 1, 2, 8, 9, 44]), (12, [6, 7]), (13, [0, 1, 2, 8, 10]), (14, [0, 1, 2, 8, 10, 53]), (15, [6, 7]), (16, [6, 7])] id).getD [] }
/-- lariat/lariatref15.has -/
def hint50 : Hint := { nv := 6, objs := [], keep := [], lits := [], own := false, live := fun id => (Am.look [(0, [0, 1]), (1, [0, 1, 5]), (2, [0, 1, 5, 9]), (3, [0, 1, 5]), (4, [0, 1, 5, 17]), (5, [4]), (6, [4])] id).getD [] }
/-- lariat/lariatref15.ahead -/
def hint51 : Hint := { nv := 13, objs := [], keep := [], lits := [36, 65, 94, 123, 148], own := false, live := fun id => (Am.look [(0, [1, 2, 3]), (1, [1, 2, 3, 7]), (2, [1, 2, 3, 7, 8]), (3, [1, 2, 3, 7, 8, 26]), (4, [1, 2, 3, 7, 8]), (5, [1, 2, 3, 7, 8]), (6, [1, 2, 3, 7, 9]), (7, [1, 2, 3, 7, 9, 55]), (8, [1, 2, 3, 7, 9]), (9, [1, 2, 3, 7, 9]), (10, [1, 2, 3, 7, 10]), (11, [1, 2, 3, 7, 10, 84]), (12, [1, 2, 3, 7, 10]), (13, [1, 2, 3, 7, 10]), (14, [1, 2, 3, 7, 11]), (15, [1, 2, 3, 7, 11, 113]), (16, [1, 2, 3, 7, 11]), (17, [1, 2, 3, 7, 11]), (18, [1, 2, 3, 7, 12]), (19, [1, 2, 3, 7, 12, 138]), (20, [1, 2, 3, 7, 12]), (21, [1, 2, 3, 7, 12]), (22, [6])] id).getD [] }
/-- lariat/lariatref12.Chans -/
def hint52 : Hint := { nv := 8, objs := [], keep := [22, 55, 91], lits := [], own := false, live := fun id => (Am.look [(0, [0, 1]), (1, [0, 1, 6]), (2, [0, 1, 6, 11]), (3, [0, 1, 6]), (4, [0, 1, 6, 15]), (5, [4, 5]), (6, [0, 1, 6, 23]), (7, [4, 5]), (8, [0, 1, 6, 7]), (9, [0, 1, 6, 7, 27]), (10, [0, 1, 6, 7]), (11, [0, 1, 6, 7, 40]), (12, [4, 5]), (13, [0, 1, 6, 57]), (14, [4, 5]), (15, [0, 1, 6, 94]), (16, [4, 5]), (17, [4, 5])] id).getD [] }
/-- lariat/lariatref14.Check -/
def hint53 : Hint := { nv := 16, objs := [], keep := [18, 48, 119], lits := [], own := false, live := fun id => (Am.look [(0, [2, 3]), (1, [2, 3, 19]), (2, [4, 5, 6]), (3, [2, 3, 30]), (4, [4, 5, 6]), (5, [2, 3, 38]), (6, [4, 5, 6]), (7, [2, 3, 42]), (8, [4, 5, 6]), (9, [2, 3, 7, 8]), (10, [2, 3, 7, 8, 52]), (11, [4, 5, 6]), (12, [2, 3, 9]), (13, [2, 3, 9, 59]), (14, [2, 3, 9]), (15, [2, 3, 9, 68]), (16, [4, 5, 6]), (17, [2, 3, 9, 10]), (18, [2, 3, 9, 10, 74]), (19, [2, 3, 9, 10]), (20, [2, 3, 9, 10, 89]), (21, [4, 5, 6]), (22, [2, 11]), (23, [2, 11, 12]), (24, [2, 11, 12, 108]), (25, [2, 11, 12]), (26, [2, 11, 12, 13, 14]), (27, [2, 11, 12, 13, 14, 123]), (28, [4, 5, 6]), (29, [2, 11, 12, 15]), (30, [2, 11, 12, 15, 130]), (31, [2, 11, 12, 15]), (32, [2, 11, 12, 15, 145]), (33, [4, 5, 6]), (34, [4, 5, 6])] id).getD [] }
/-- lariat/lariatref14.Scope -/
def hint54 : Hint := { nv := 6, objs := [], keep := [], lits := [], own := false, live := fun id => (Am.look [(0, [1, 2, 4]), (1, [1, 2, 4, 14]), (2, [4]), (3, [2, 4, 5]), (4, [4])] id).getD [] }
/-- lariat/lariatref12.Cells -/
def hint55 : Hint := { nv := 4, objs := [], keep := [11], lits := [], own := false, live := fun id => (Am.look [(0, [1, 2]), (1, [1, 2, 7]), (2, [4]), (3, [4])] id).getD [] }
/-- lariat/lariatref15.Insts -/
def hint56 : Hint := { nv := 4, objs := [], keep := [12], lits := [], own := false, live := fun id => (Am.look [(0, [2, 3]), (1, [2, 3, 7]), (2, [4]), (3, [4])] id).getD [] }
/-- lariat/lariatref09.Name -/
def hint57 : Hint := { nv := 5, objs := [], keep := [30], lits := [], own := false, live := fun id => (Am.look [(0, [0]), (1, [0, 27]), (2, [2]), (3, [0, 3, 4]), (4, [2])] id).getD [] }
/-- lariat/lariatref10.Kind -/
def hint58 : Hint := { nv := 12, objs := [], keep := [29, 45, 61, 82], lits := [96], own := false, live := fun id => (Am.look [(0, [0, 3]), (1, [0, 3, 14]), (2, [4, 5]), (3, [0, 3, 17]), (4, [4, 5]), (5, [0, 3, 6]), (6, [0, 3, 6, 7]), (7, [0, 3, 6, 7, 21]), (8, [0, 3, 6, 7]), (9, [0, 3, 6, 7, 8]), (10, [0, 3, 6, 7, 8, 9]), (11, [0, 3, 6, 7, 8, 9, 33]), (12, [4, 5]), (13, [0, 3, 6, 7, 8, 9, 36]), (14, [4, 5]), (15, [0, 3, 6, 7, 8, 9, 10]), (16, [0, 3, 6, 7, 8, 9, 10, 11]), (17, [0, 3, 6, 7, 8, 9, 10, 11, 38]), (18, [0, 3, 6, 7, 8, 9, 10, 11]), (19, [0, 3, 6, 7, 8, 9, 10, 11, 49]), (20, [0, 3, 6, 7, 8, 9, 10, 11]), (21, [0, 3, 6, 7, 8, 9, 10, 11, 65]), (22, [0, 3, 6, 7, 8, 9, 10, 11]), (23, [0, 3, 6, 7, 8, 9, 10, 11, 86]), (24, [4, 5]), (25, [0, 3, 6, 7]), (26, [0, 3, 6, 7, 100]), (27, [4, 5]), (28, [6, 103]), (29, [4, 5]), (30, [4, 5])] id).getD [] }
/-- lariat/lariatref49.bit -/
def hint59 : Hint := { nv := 2, objs := [], keep := [], lits := [], own := false, live := fun id => (Am.look [(0, [0, 2]), (1, [2])] id).getD [] }
/-- lariat/lariatref49.cmd -/
def hint60 : Hint := { nv := 12, objs := [], keep := [], lits := [], own := false, live := fun id => (Am.look [(0, [0, 1, 2, 3, 4, 5, 12]), (1, [12])] id).getD [] }
/-- lariat/lariatref49.local -/
def hint61 : Hint := { nv := 2, objs := [], keep := [], lits := [], own := false, live := fun id => (Am.look [(0, [0, 2]), (1, [2])] id).getD [] }
/-- lariat/lariatref49.two -/
def hint62 : Hint := { nv := 6, objs := [], keep := [], lits := [], own := false, live := fun id => (Am.look [(0, [2, 3, 4]), (1, [6])] id).getD [] }
/-- lariat/lariatref49.num -/
def hint63 : Hint := { nv := 2, objs := [], keep := [], lits := [], own := false, live := fun id => (Am.look [(0, [0, 2]), (1, [2])] id).getD [] }
/-- lariat/lariatref49.wire -/
def hint64 : Hint := { nv := 4, objs := [], keep := [], lits := [], own := false, live := fun id => (Am.look [(0, [0, 1, 4]), (1, [4])] id).getD [] }
/-- lariat/lariatref49.some -/
def hint65 : Hint := { nv := 4, objs := [], keep := [5, 8, 9], lits := [], own := false, live := fun id => (Am.look [(0, [0, 1]), (1, [4])] id).getD [] }
/-- lariat/lariatref49.vr -/
def hint66 : Hint := { nv := 2, objs := [], keep := [], lits := [], own := false, live := fun id => (Am.look [(0, [0, 2]), (1, [2])] id).getD [] }
/-- lariat/lariatref49.id -/
def hint67 : Hint := { nv := 2, objs := [], keep := [], lits := [], own := false, live := fun id => (Am.look [(0, [0]), (1, [2])] id).getD [] }
/-- lariat/lariatref49.at -/
def hint68 : Hint := { nv := 4, objs := [], keep := [], lits := [], own := false, live := fun id => (Am.look [(0, [0, 1, 4]), (1, [4])] id).getD [] }
/-- lariat/lariatref49.both -/
def hint69 : Hint := { nv := 8, objs := [], keep := [], lits := [17], own := false, live := fun id => (Am.look [(0, [0, 1, 2]), (1, [0, 1, 2, 7]), (2, [0, 2, 7]), (3, [0, 7]), (4, [6])] id).getD [] }
/-- lariat/lariatref15.cmd -/
def hint70 : Hint := { nv := 8, objs := [], keep := [39, 92, 100], lits := [], own := false, live := fun id => (Am.look [(0, [2, 3]), (1, [2, 3, 50]), (2, [4]), (3, [2, 3, 5]), (4, [2, 3, 5, 55]), (5, [2, 3, 5]), (6, [2, 3, 5, 6, 7]), (7, [2, 3, 5, 102]), (8, [4]), (9, [4])] id).getD [] }
/-- lariat/lib.node -/
def hint71 : Hint := { nv := 4, objs := [], keep := [], lits := [], own := false, live := fun id => (Am.look [(0, [0, 1, 4]), (1, [4])] id).getD [] }
/-- lariat/lib.abp$1 -/
def hint72 : Hint := { nv := 1, objs := [], keep := [2, 4], lits := [], own := false, live := fun id => (Am.look [(0, [0, 1]), (1, [1])] id).getD [] }
/-- lariat/lib.both -/
def hint73 : Hint := { nv := 6, objs := [], keep := [10], lits := [], own := false, live := fun id => (Am.look [(0, [2, 3, 4]), (1, [6])] id).getD [] }
/-- lariat/lib.abp$2 -/
def hint74 : Hint := { nv := 2, objs := [], keep := [5], lits := [], own := false, live := fun id => (Am.look [(0, [0, 1]), (1, [2])] id).getD [] }
/-- lariat/lib.abp$3 -/
def hint75 : Hint := { nv := 2, objs := [], keep := [5], lits := [], own := false, live := fun id => (Am.look [(0, [0, 1]), (1, [2])] id).getD [] }
/-- lariat/lib.bit -/
def hint76 : Hint := { nv := 2, objs := [], keep := [], lits := [], own := false, live := fun id => (Am.look [(0, [0, 2]), (1, [2])] id).getD [] }
/-- lariat/lib.step -/
def hint77 : Hint := { nv := 10, objs := [], keep := [], lits := [], own := false, live := fun id => (Am.look [(0, [0, 1, 2, 3, 4, 10]), (1, [10])] id).getD [] }
/-- lariat/lib.pick -/
def hint78 : Hint := { nv := 4, objs := [], keep := [7], lits := [], own := false, live := fun id => (Am.look [(0, [0, 1]), (1, [4])] id).getD [] }
/-- lariat/lib.lossy -/
def hint79 : Hint := { nv := 4, objs := [], keep := [], lits := [], own := false, live := fun id => (Am.look [(0, [0, 1, 4]), (1, [4])] id).getD [] }
/-- lariat/lib.above -/
def hint80 : Hint := { nv := 4, objs := [], keep := [6, 8], lits := [], own := false, live := fun id => (Am.look [(0, [0, 3]), (1, [4])] id).getD [] }
/-- lariat/lib.at -/
def hint81 : Hint := { nv := 4, objs := [], keep := [9], lits := [], own := false, live := fun id => (Am.look [(0, [0, 1, 4]), (1, [4])] id).getD [] }
/-- lariat/lib.ids -/
def hint82 : Hint := { nv := 2, objs := [], keep := [], lits := [], own := false, live := fun id => (Am.look [(0, [0]), (1, [2])] id).getD [] }
/-- lariat/lib.ring$1 -/
def hint83 : Hint := { nv := 0, objs := [], keep := [1, 2, 3], lits := [], own := false, live := fun id => (Am.look [(0, []), (1, [0])] id).getD [] }
/-- lariat/lib.ring$2 -/
def hint84 : Hint := { nv := 2, objs := [], keep := [], lits := [], own := false, live := fun id => (Am.look [(0, [0, 2]), (1, [2])] id).getD [] }
/-- lariat/lariatref12.variable -/
def hint85 : Hint := { nv := 4, objs := [], keep := [12, 23, 35, 65], lits := [], own := false, live := fun id => (Am.look [(0, [1, 2]), (1, [1, 2, 26]), (2, [4]), (3, [1, 2, 51]), (4, [4]), (5, [68]), (6, [4]), (7, [4])] id).getD [] }
/-- lariat/lariatref12.Size -/
def hint86 : Hint := { nv := 4, objs := [], keep := [], lits := [], own := false, live := fun id => (Am.look [(0, [0, 1]), (1, [0, 1, 30]), (2, [4]), (3, [4])] id).getD [] }
/-- lariat/lariatref12.span -/
def hint87 : Hint := { nv := 4, objs := [], keep := [], lits := [], own := false, live := fun id => (Am.look [(0, [0, 1]), (1, [4])] id).getD [] }
/-- lariat/lariatref13.Check -/
def hint88 : Hint := { nv := 12, objs := [], keep := [14, 49, 67], lits := [], own := false, live := fun id => (Am.look [(0, [3, 4, 5]), (1, [3, 4, 5, 15]), (2, [6, 7]), (3, [3, 5, 37]), (4, [6, 7]), (5, [3, 5, 41]), (6, [6, 7]), (7, [3, 5, 45]), (8, [3, 5, 8]), (9, [3, 5, 8, 51]), (10, [6, 7]), (11, [3, 5, 9]), (12, [3, 5, 9, 10]), (13, [3, 5, 9, 10, 57]), (14, [3, 5, 9, 10]), (15, [3, 5, 9, 10, 11]), (16, [3, 5, 9, 10, 11, 69]), (17, [6, 7]), (18, [3, 5, 9, 10]), (19, [6, 7])] id).getD [] }
/-- lariat/lariatref09.begins -/
def hint89 : Hint := { nv := 9, objs := [], keep := [13, 22, 27, 44, 53, 60], lits := [], own := false, live := fun id => (Am.look [(0, [0, 1]), (1, [0, 1, 6]), (2, [0, 1, 6, 13]), (3, [0, 1, 6, 35]), (4, [0, 1, 6]), (5, [4, 5]), (6, [0, 1, 6, 44]), (7, [0, 1, 6, 54]), (8, [0, 1, 6]), (9, [4, 5]), (10, [0, 1, 7]), (11, [0, 1, 7, 8]), (12, [0, 1, 7, 8, 64]), (13, [0, 1, 7, 8]), (14, [0, 1, 7, 8, 93]), (15, [4, 5]), (16, [4, 5])] id).getD [] }
/-- lariat/lariatref10.Takes -/
def hint90 : Hint := { nv := 2, objs := [], keep := [], lits := [], own := false, live := fun id => (Am.look [(0, [0]), (1, [3]), (2, [3, 4]), (3, [3, 4]), (4, [3, 4]), (5, [3, 4]), (6, [3, 4]), (7, [3, 4]), (8, [3, 4]), (9, [2]), (10, [3, 12]), (11, [3, 12]), (12, [3, 12]), (13, [2]), (14, [3, 16]), (15, [3, 16]), (16, [3, 16]), (17, [3, 16]), (18, [3, 16]), (19, [3, 16]), (20, [3, 16]), (21, [3, 16]), (22, [16]), (23, [2]), (24, [2])] id).getD [] }
/-- lariat/lariatref10.leaf -/
def hint91 : Hint := { nv := 11, objs := [], keep := [38, 48, 71], lits := [], own := false, live := fun id => (Am.look [(0, [2, 3]), (1, [2, 3, 12]), (2, [2, 3, 12, 13]), (3, [22]), (4, [4, 5]), (5, [4, 5]), (6, [2, 3, 12, 23]), (7, [2, 3, 12, 23]), (8, [2, 3, 6]), (9, [2, 3, 6, 30]), (10, [2, 3, 6]), (11, [7, 8]), (12, [7, 42]), (13, [4, 5]), (14, [7, 45]), (15, [4, 5]), (16, [4, 5]), (17, [2, 3, 12, 49]), (18, [3, 61]), (19, [4, 5]), (20, [4, 5]), (21, [2, 3, 12, 65]), (22, [10]), (23, [75]), (24, [4, 5]), (25, [4, 5]), (26, [2, 3, 76]), (27, [103]), (28, [4, 5]), (29, [4, 5]), (30, [2, 114]), (31, [4, 5]), (32, [4, 5])] id).getD [] }
/-- lariat/lariatref10.one -/
def hint92 : Hint := { nv := 10, objs := [], keep := [19, 36], lits := [], own := false, live := fun id => (Am.look [(0, [1, 3, 5]), (1, [1, 3, 5, 12]), (2, [1, 8, 9]), (3, [1, 8, 23]), (4, [6, 7]), (5, [8, 33]), (6, [6, 7]), (7, [6, 7]), (8, [1, 3, 43]), (9, [6, 7]), (10, [50]), (11, [6, 7]), (12, [6, 7])] id).getD [] }
/-- lariat/lariatref10.two -/
def hint93 : Hint := { nv := 6, objs := [], keep := [], lits := [], own := false, live := fun id => (Am.look [(0, [0, 1, 2]), (1, [0, 1, 10]), (2, [6, 7]), (3, [1, 11]), (4, [13]), (5, [6, 7]), (6, [1, 11, 14]), (7, [1, 11, 14]), (8, [6, 7]), (9, [1, 11, 17]), (10, [1, 11, 17]), (11, [21]), (12, [6, 7]), (13, [1, 11, 22]), (14, [1, 22]), (15, [26]), (16, [6, 7]), (17, [6, 7])] id).getD [] }
/-- lariat/lariatref13.is -/
def hint94 : Hint := { nv := 9, objs := [], keep := [12], lits := [], own := false, live := fun id => (Am.look [(0, [0, 1, 5]), (1, [1, 7, 8]), (2, [1, 7, 8, 16]), (3, [6]), (4, [20]), (5, [6]), (6, [6])] id).getD [] }
/-- lariat/lariatref13.act -/
def hint95 : Hint := { nv := 14, objs := [], keep := [27, 48, 58, 64, 76, 78, 85, 94], lits := [], own := false, live := fun id => (Am.look [(0, [2, 3, 4]), (1, [2, 3, 4, 21]), (2, [6]), (3, [2, 3, 4, 24]), (4, [6]), (5, [2, 3, 4, 35]), (6, [3, 4, 7]), (7, [3, 4, 7, 40]), (8, [3, 4, 7]), (9, [3, 4, 8, 9]), (10, [3, 4, 8, 9, 52]), (11, [6]), (12, [6]), (13, [3, 4, 59]), (14, [6]), (15, [3, 4, 10, 11]), (16, [3, 4, 10, 68]), (17, [6]), (18, [3, 4, 10, 71]), (19, [6]), (20, [10, 12, 13]), (21, [10, 12, 13, 89]), (22, [6]), (23, [95]), (24, [6]), (25, [6])] id).getD [] }
/-- lariat/lariatref09.letter -/
def hint96 : Hint := { nv := 2, objs := [], keep := [], lits := [], own := false, live := fun id => (Am.look [(0, [0]), (1, [2])] id).getD [] }
/-- lariat/lariatref09.digit -/
def hint97 : Hint := { nv := 2, objs := [], keep := [], lits := [], own := false, live := fun id => (Am.look [(0, [0]), (1, [2])] id).getD [] }
/-- lariat/lariatref09.signs -/
def hint98 : Hint := { nv := 0, objs := [], keep := [], lits := [], own := false, live := fun id => (Am.look [(0, []), (1, [0])] id).getD [] }
/-- lariat/lariatref10.Variable -/
def hint99 : Hint := { nv := 6, objs := [], keep := [23, 33], lits := [], own := false, live := fun id => (Am.look [(0, [0, 1, 5, 6]), (1, [0, 1, 6, 35]), (2, [6, 7]), (3, [6, 7])] id).getD [] }
/-- lariat/lariatref10.KindOf -/
def hint100 : Hint := { nv := 2, objs := [], keep := [], lits := [], own := false, live := fun id => (Am.look [(0, [0]), (1, [0, 4]), (2, [2]), (3, [2])] id).getD [] }
/-- lariat/lariatref10.Channel -/
def hint101 : Hint := { nv := 4, objs := [], keep := [23], lits := [], own := false, live := fun id => (Am.look [(0, [0, 3, 4]), (1, [0, 3, 4, 25]), (2, [4, 5]), (3, [4, 5])] id).getD [] }
/-- lariat/lariatref13.item -/
def hint102 : Hint := { nv := 8, objs := [], keep := [14, 28, 36, 38], lits := [], own := false, live := fun id => (Am.look [(0, [2, 3]), (1, [2, 3, 5, 6]), (2, [2, 3, 5, 18]), (3, [4]), (4, [2, 3, 5, 21]), (5, [4]), (6, [2, 3, 5, 7]), (7, [2, 3, 5, 7, 30]), (8, [4]), (9, [4])] id).getD [] }
/-- lariat/lariatref13.plain -/
def hint103 : Hint := { nv := 10, objs := [], keep := [14, 24], lits := [], own := false, live := fun id => (Am.look [(0, [0, 1, 5]), (1, [8, 9]), (2, [8, 18]), (3, [6, 7]), (4, [8, 21]), (5, [6, 7]), (6, [6, 7])] id).getD [] }
/-- lariat/lariatref10.scalar -/
def hint104 : Hint := { nv := 4, objs := [], keep := [], lits := [], own := false, live := fun id => (Am.look [(0, [0, 3]), (1, [4])] id).getD [] }
def hints : FuncId → Hint := fun f => match f with
  | 3 => hint3
  | 4 => hint4
  | 5 => hint5
  | 6 => hint6
  | 7 => hint7
  | 8 => hint8
  | 9 => hint9
  | 10 => hint10
  | 11 => hint11
  | 12 => hint12
  | 13 => hint13
  | 14 => hint14
  | 15 => hint15
  | 16 => hint16
  | 17 => hint17
  | 18 => hint18
  | 19 => hint19
  | 20 => hint20
  | 21 => hint21
  | 22 => hint22
  | 23 => hint23
  | 24 => hint24
  | 25 => hint25
  | 26 => hint26
  | 27 => hint27
  | 28 => hint28
  | 29 => hint29
  | 30 => hint30
  | 31 => hint31
  | 32 => hint32
  | 33 => hint33
  | 34 => hint34
  | 35 => hint35
  | 36 => hint36
  | 37 => hint37
  | 38 => hint38
  | 39 => hint39
  | 40 => hint40
  | 41 => hint41
  | 42 => hint42
  | 43 => hint43
  | 44 => hint44
  | 45 => hint45
  | 46 => hint46
  | 47 => hint47
  | 48 => hint48
  | 49 => hint49
  | 50 => hint50
  | 51 => hint51
  | 52 => hint52
  | 53 => hint53
  | 54 => hint54
  | 55 => hint55
  | 56 => hint56
  | 57 => hint57
  | 58 => hint58
  | 59 => hint59
  | 60 => hint60
  | 61 => hint61
  | 62 => hint62
  | 63 => hint63
  | 64 => hint64
  | 65 => hint65
  | 66 => hint66
  | 67 => hint67
  | 68 => hint68
  | 69 => hint69
  | 70 => hint70
  | 71 => hint71
  | 72 => hint72
  | 73 => hint73
  | 74 => hint74
  | 75 => hint75
  | 76 => hint76
  | 77 => hint77
  | 78 => hint78
  | 79 => hint79
  | 80 => hint80
  | 81 => hint81
  | 82 => hint82
  | 83 => hint83
  | 84 => hint84
  | 85 => hint85
  | 86 => hint86
  | 87 => hint87
  | 88 => hint88
  | 89 => hint89
  | 90 => hint90
  | 91 => hint91
  | 92 => hint92
  | 93 => hint93
  | 94 => hint94
  | 95 => hint95
  | 96 => hint96
  | 97 => hint97
  | 98 => hint98
  | 99 => hint99
  | 100 => hint100
  | 101 => hint101
  | 102 => hint102
  | 103 => hint103
  | 104 => hint104
  | _ => { nv := 0, objs := [], keep := [], lits := [], own := false, live := fun _ => [] }
noncomputable abbrev call : CallF := callX P hints
@[go_sem] theorem hn3 : hint3.nv = 11 := rfl
@[go_sem] theorem ho3 : hint3.objs = [] := rfl
@[go_sem] theorem hk3 : hint3.keep = [11, 24, 32, 35, 46, 53, 66, 71] := rfl
@[go_sem] theorem hl3 : hint3.lits = [] := rfl
@[go_sem] theorem hn4 : hint4.nv = 12 := rfl
@[go_sem] theorem ho4 : hint4.objs = [] := rfl
@[go_sem] theorem hk4 : hint4.keep = [15, 19, 25, 29, 31, 38, 49, 50, 51, 68, 70] := rfl
@[go_sem] theorem hl4 : hint4.lits = [] := rfl
@[go_sem] theorem hn6 : hint6.nv = 8 := rfl
@[go_sem] theorem ho6 : hint6.objs = [] := rfl
@[go_sem] theorem hk6 : hint6.keep = [] := rfl
@[go_sem] theorem hl6 : hint6.lits = [] := rfl
@[go_sem] theorem hn8 : hint8.nv = 5 := rfl
@[go_sem] theorem ho8 : hint8.objs = [] := rfl
@[go_sem] theorem hk8 : hint8.keep = [] := rfl
@[go_sem] theorem hl8 : hint8.lits = [] := rfl
@[go_sem] theorem hn12 : hint12.nv = 10 := rfl
@[go_sem] theorem ho12 : hint12.objs = [] := rfl
@[go_sem] theorem hk12 : hint12.keep = [16, 47, 51, 55, 59, 61] := rfl
@[go_sem] theorem hl12 : hint12.lits = [] := rfl
@[go_sem] theorem hn13 : hint13.nv = 5 := rfl
@[go_sem] theorem ho13 : hint13.objs = [] := rfl
@[go_sem] theorem hk13 : hint13.keep = [5, 6, 7, 8, 12, 13, 15, 20, 21, 22, 23, 27, 28, 30, 31, 35, 36, 37, 38, 42, 43, 44, 46] := rfl
@[go_sem] theorem hl13 : hint13.lits = [] := rfl
@[go_sem] theorem ag0 : aggO P 0 = some false := by kernel_rfl
@[go_sem] theorem el0 : Am.elemOf P 0 = none := by kernel_rfl
@[go_sem] theorem ce0 : P.cellsOf 0 = 1 := by kernel_rfl
@[go_sem] theorem by0 : P.bytesOf 0 = 0 := by kernel_rfl
@[go_sem] theorem in0 : (P.info? 0).isSome = true := by kernel_rfl
@[go_sem] theorem ki0 : kindOf P 0 = none := by kernel_rfl
@[go_sem] theorem ag3 : aggO P 3 = some false := by kernel_rfl
@[go_sem] theorem el3 : Am.elemOf P 3 = none := by kernel_rfl
@[go_sem] theorem ce3 : P.cellsOf 3 = 1 := by kernel_rfl
@[go_sem] theorem by3 : P.bytesOf 3 = 8 := by kernel_rfl
@[go_sem] theorem in3 : (P.info? 3).isSome = true := by kernel_rfl
@[go_sem] theorem ze3 : zeroOf P 3 = some (.int .i64 (0)) := by kernel_rfl
@[go_sem] theorem ki3 : kindOf P 3 = some 0 := by kernel_rfl
@[go_sem] theorem un3 : P.underlying 3 = some (.int .i64) := by kernel_rfl
@[go_sem] theorem ag4 : aggO P 4 = some false := by kernel_rfl
@[go_sem] theorem el4 : Am.elemOf P 4 = none := by kernel_rfl
@[go_sem] theorem ce4 : P.cellsOf 4 = 1 := by kernel_rfl
@[go_sem] theorem by4 : P.bytesOf 4 = 1 := by kernel_rfl
@[go_sem] theorem in4 : (P.info? 4).isSome = true := by kernel_rfl
@[go_sem] theorem ze4 : zeroOf P 4 = some (.bool false) := by kernel_rfl
@[go_sem] theorem ki4 : kindOf P 4 = some 2 := by kernel_rfl
@[go_sem] theorem un4 : P.underlying 4 = some .bool := by kernel_rfl
@[go_sem] theorem ag5 : aggO P 5 = some false := by kernel_rfl
@[go_sem] theorem el5 : Am.elemOf P 5 = none := by kernel_rfl
@[go_sem] theorem ce5 : P.cellsOf 5 = 1 := by kernel_rfl
@[go_sem] theorem by5 : P.bytesOf 5 = 1 := by kernel_rfl
@[go_sem] theorem in5 : (P.info? 5).isSome = true := by kernel_rfl
@[go_sem] theorem ze5 : zeroOf P 5 = some (.int .u8 (0)) := by kernel_rfl
@[go_sem] theorem ki5 : kindOf P 5 = some 0 := by kernel_rfl
@[go_sem] theorem un5 : P.underlying 5 = some (.int .u8) := by kernel_rfl
@[go_sem] theorem ag9 : aggO P 9 = some false := by kernel_rfl
@[go_sem] theorem el9 : Am.elemOf P 9 = none := by kernel_rfl
@[go_sem] theorem ce9 : P.cellsOf 9 = 1 := by kernel_rfl
@[go_sem] theorem by9 : P.bytesOf 9 = 16 := by kernel_rfl
@[go_sem] theorem in9 : (P.info? 9).isSome = true := by kernel_rfl
@[go_sem] theorem ze9 : zeroOf P 9 = some (.str []) := by kernel_rfl
@[go_sem] theorem ki9 : kindOf P 9 = some 1 := by kernel_rfl
@[go_sem] theorem un9 : P.underlying 9 = some .string := by kernel_rfl
@[go_sem] theorem ag22 : aggO P 22 = some false := by kernel_rfl
@[go_sem] theorem el22 : Am.elemOf P 22 = some 9 := by kernel_rfl
@[go_sem] theorem ce22 : P.cellsOf 22 = 1 := by kernel_rfl
@[go_sem] theorem by22 : P.bytesOf 22 = 24 := by kernel_rfl
@[go_sem] theorem in22 : (P.info? 22).isSome = true := by kernel_rfl
@[go_sem] theorem ze22 : zeroOf P 22 = some (.nils) := by kernel_rfl
@[go_sem] theorem ki22 : kindOf P 22 = none := by kernel_rfl
@[go_sem] theorem un22 : P.underlying 22 = some (.slice 9) := by kernel_rfl
@[go_sem] theorem ag24 : aggO P 24 = some false := by kernel_rfl
@[go_sem] theorem el24 : Am.elemOf P 24 = some 67 := by kernel_rfl
@[go_sem] theorem ce24 : P.cellsOf 24 = 1 := by kernel_rfl
@[go_sem] theorem by24 : P.bytesOf 24 = 24 := by kernel_rfl
@[go_sem] theorem in24 : (P.info? 24).isSome = true := by kernel_rfl
@[go_sem] theorem ze24 : zeroOf P 24 = some (.nils) := by kernel_rfl
@[go_sem] theorem ki24 : kindOf P 24 = none := by kernel_rfl
@[go_sem] theorem un24 : P.underlying 24 = some (.slice 67) := by kernel_rfl
@[go_sem] theorem ag25 : aggO P 25 = some false := by kernel_rfl
@[go_sem] theorem el25 : Am.elemOf P 25 = some 84 := by kernel_rfl
@[go_sem] theorem ce25 : P.cellsOf 25 = 1 := by kernel_rfl
@[go_sem] theorem by25 : P.bytesOf 25 = 24 := by kernel_rfl
@[go_sem] theorem in25 : (P.info? 25).isSome = true := by kernel_rfl
@[go_sem] theorem ze25 : zeroOf P 25 = some (.nils) := by kernel_rfl
@[go_sem] theorem ki25 : kindOf P 25 = none := by kernel_rfl
@[go_sem] theorem un25 : P.underlying 25 = some (.slice 84) := by kernel_rfl
@[go_sem] theorem ag26 : aggO P 26 = some false := by kernel_rfl
@[go_sem] theorem el26 : Am.elemOf P 26 = some 69 := by kernel_rfl
@[go_sem] theorem ce26 : P.cellsOf 26 = 1 := by kernel_rfl
@[go_sem] theorem by26 : P.bytesOf 26 = 24 := by kernel_rfl
@[go_sem] theorem in26 : (P.info? 26).isSome = true := by kernel_rfl
@[go_sem] theorem ze26 : zeroOf P 26 = some (.nils) := by kernel_rfl
@[go_sem] theorem ki26 : kindOf P 26 = none := by kernel_rfl
@[go_sem] theorem un26 : P.underlying 26 = some (.slice 69) := by kernel_rfl
@[go_sem] theorem ag27 : aggO P 27 = some false := by kernel_rfl
@[go_sem] theorem el27 : Am.elemOf P 27 = some 73 := by kernel_rfl
@[go_sem] theorem ce27 : P.cellsOf 27 = 1 := by kernel_rfl
@[go_sem] theorem by27 : P.bytesOf 27 = 24 := by kernel_rfl
@[go_sem] theorem in27 : (P.info? 27).isSome = true := by kernel_rfl
@[go_sem] theorem ze27 : zeroOf P 27 = some (.nils) := by kernel_rfl
@[go_sem] theorem ki27 : kindOf P 27 = none := by kernel_rfl
@[go_sem] theorem un27 : P.underlying 27 = some (.slice 73) := by kernel_rfl
@[go_sem] theorem ag28 : aggO P 28 = some false := by kernel_rfl
@[go_sem] theorem el28 : Am.elemOf P 28 = some 75 := by kernel_rfl
@[go_sem] theorem ce28 : P.cellsOf 28 = 1 := by kernel_rfl
@[go_sem] theorem by28 : P.bytesOf 28 = 24 := by kernel_rfl
@[go_sem] theorem in28 : (P.info? 28).isSome = true := by kernel_rfl
@[go_sem] theorem ze28 : zeroOf P 28 = some (.nils) := by kernel_rfl
@[go_sem] theorem ki28 : kindOf P 28 = none := by kernel_rfl
@[go_sem] theorem un28 : P.underlying 28 = some (.slice 75) := by kernel_rfl
@[go_sem] theorem ag30 : aggO P 30 = some true := by kernel_rfl
@[go_sem] theorem el30 : Am.elemOf P 30 = none := by kernel_rfl
@[go_sem] theorem ce30 : P.cellsOf 30 = 5 := by kernel_rfl
@[go_sem] theorem by30 : P.bytesOf 30 = 120 := by kernel_rfl
@[go_sem] theorem in30 : (P.info? 30).isSome = true := by kernel_rfl
@[go_sem] theorem ze30 : zeroOf P 30 = some (.agg [.nils, .nils, .nils, .nils, .nils]) := by kernel_rfl
@[go_sem] theorem ki30 : kindOf P 30 = none := by kernel_rfl
@[go_sem] theorem fi30_0 : fieldOf P 30 0 = some (0, 1, false) := by kernel_rfl
@[go_sem] theorem fi30_1 : fieldOf P 30 1 = some (1, 1, false) := by kernel_rfl
@[go_sem] theorem fi30_2 : fieldOf P 30 2 = some (2, 1, false) := by kernel_rfl
@[go_sem] theorem fi30_3 : fieldOf P 30 3 = some (3, 1, false) := by kernel_rfl
@[go_sem] theorem fi30_4 : fieldOf P 30 4 = some (4, 1, false) := by kernel_rfl
@[go_sem] theorem pl30 : placesOf P 30 = some (.inr [(0, 1), (1, 1), (2, 1), (3, 1), (4, 1)]) := by kernel_rfl
@[go_sem] theorem ag31 : aggO P 31 = some false := by kernel_rfl
@[go_sem] theorem el31 : Am.elemOf P 31 = none := by kernel_rfl
@[go_sem] theorem ce31 : P.cellsOf 31 = 1 := by kernel_rfl
@[go_sem] theorem by31 : P.bytesOf 31 = 8 := by kernel_rfl
@[go_sem] theorem in31 : (P.info? 31).isSome = true := by kernel_rfl
@[go_sem] theorem ze31 : zeroOf P 31 = some (.int .i64 (0)) := by kernel_rfl
@[go_sem] theorem ki31 : kindOf P 31 = some 0 := by kernel_rfl
@[go_sem] theorem un31 : P.underlying 31 = some (.int .i64) := by kernel_rfl
@[go_sem] theorem ag32 : aggO P 32 = some false := by kernel_rfl
@[go_sem] theorem el32 : Am.elemOf P 32 = none := by kernel_rfl
@[go_sem] theorem ce32 : P.cellsOf 32 = 1 := by kernel_rfl
@[go_sem] theorem by32 : P.bytesOf 32 = 0 := by kernel_rfl
@[go_sem] theorem in32 : (P.info? 32).isSome = true := by kernel_rfl
@[go_sem] theorem ki32 : kindOf P 32 = none := by kernel_rfl
@[go_sem] theorem ag35 : aggO P 35 = some false := by kernel_rfl
@[go_sem] theorem el35 : Am.elemOf P 35 = some 38 := by kernel_rfl
@[go_sem] theorem ce35 : P.cellsOf 35 = 1 := by kernel_rfl
@[go_sem] theorem by35 : P.bytesOf 35 = 24 := by kernel_rfl
@[go_sem] theorem in35 : (P.info? 35).isSome = true := by kernel_rfl
@[go_sem] theorem ze35 : zeroOf P 35 = some (.nils) := by kernel_rfl
@[go_sem] theorem ki35 : kindOf P 35 = none := by kernel_rfl
@[go_sem] theorem un35 : P.underlying 35 = some (.slice 38) := by kernel_rfl
@[go_sem] theorem ag38 : aggO P 38 = some false := by kernel_rfl
@[go_sem] theorem el38 : Am.elemOf P 38 = some 50 := by kernel_rfl
@[go_sem] theorem ce38 : P.cellsOf 38 = 1 := by kernel_rfl
@[go_sem] theorem by38 : P.bytesOf 38 = 24 := by kernel_rfl
@[go_sem] theorem in38 : (P.info? 38).isSome = true := by kernel_rfl
@[go_sem] theorem ze38 : zeroOf P 38 = some (.nils) := by kernel_rfl
@[go_sem] theorem ki38 : kindOf P 38 = none := by kernel_rfl
@[go_sem] theorem un38 : P.underlying 38 = some (.slice 50) := by kernel_rfl
@[go_sem] theorem ag39 : aggO P 39 = some false := by kernel_rfl
@[go_sem] theorem el39 : Am.elemOf P 39 = none := by kernel_rfl
@[go_sem] theorem ce39 : P.cellsOf 39 = 1 := by kernel_rfl
@[go_sem] theorem by39 : P.bytesOf 39 = 8 := by kernel_rfl
@[go_sem] theorem in39 : (P.info? 39).isSome = true := by kernel_rfl
@[go_sem] theorem ze39 : zeroOf P 39 = some (.int .u64 (0)) := by kernel_rfl
@[go_sem] theorem ki39 : kindOf P 39 = some 0 := by kernel_rfl
@[go_sem] theorem un39 : P.underlying 39 = some (.int .u64) := by kernel_rfl
@[go_sem] theorem ag41 : aggO P 41 = some false := by kernel_rfl
@[go_sem] theorem el41 : Am.elemOf P 41 = none := by kernel_rfl
@[go_sem] theorem ce41 : P.cellsOf 41 = 1 := by kernel_rfl
@[go_sem] theorem by41 : P.bytesOf 41 = 8 := by kernel_rfl
@[go_sem] theorem in41 : (P.info? 41).isSome = true := by kernel_rfl
@[go_sem] theorem ze41 : zeroOf P 41 = some (.int .u64 (0)) := by kernel_rfl
@[go_sem] theorem ki41 : kindOf P 41 = some 0 := by kernel_rfl
@[go_sem] theorem un41 : P.underlying 41 = some (.int .u64) := by kernel_rfl
@[go_sem] theorem ag43 : aggO P 43 = some true := by kernel_rfl
@[go_sem] theorem el43 : Am.elemOf P 43 = none := by kernel_rfl
@[go_sem] theorem ce43 : P.cellsOf 43 = 4 := by kernel_rfl
@[go_sem] theorem by43 : P.bytesOf 43 = 32 := by kernel_rfl
@[go_sem] theorem in43 : (P.info? 43).isSome = true := by kernel_rfl
@[go_sem] theorem ze43 : zeroOf P 43 = some (.agg [.int .i64 (0), .int .i64 (0), .int .i64 (0), .int .i64 (0)]) := by kernel_rfl
@[go_sem] theorem ki43 : kindOf P 43 = none := by kernel_rfl
@[go_sem] theorem fi43_0 : fieldOf P 43 0 = some (0, 1, false) := by kernel_rfl
@[go_sem] theorem fi43_1 : fieldOf P 43 1 = some (1, 1, false) := by kernel_rfl
@[go_sem] theorem fi43_2 : fieldOf P 43 2 = some (2, 1, false) := by kernel_rfl
@[go_sem] theorem fi43_3 : fieldOf P 43 3 = some (3, 1, false) := by kernel_rfl
@[go_sem] theorem pl43 : placesOf P 43 = some (.inr [(0, 1), (1, 1), (2, 1), (3, 1)]) := by kernel_rfl
@[go_sem] theorem ps43 : plainS P 43 = some [0, 0, 0, 0] := by kernel_rfl
@[go_sem] theorem ag50 : aggO P 50 = some true := by kernel_rfl
@[go_sem] theorem el50 : Am.elemOf P 50 = none := by kernel_rfl
@[go_sem] theorem ce50 : P.cellsOf 50 = 2 := by kernel_rfl
@[go_sem] theorem by50 : P.bytesOf 50 = 16 := by kernel_rfl
@[go_sem] theorem in50 : (P.info? 50).isSome = true := by kernel_rfl
@[go_sem] theorem ze50 : zeroOf P 50 = some (.agg [.int .i64 (0), .int .i64 (0)]) := by kernel_rfl
@[go_sem] theorem ki50 : kindOf P 50 = none := by kernel_rfl
@[go_sem] theorem fi50_0 : fieldOf P 50 0 = some (0, 1, false) := by kernel_rfl
@[go_sem] theorem fi50_1 : fieldOf P 50 1 = some (1, 1, false) := by kernel_rfl
@[go_sem] theorem pl50 : placesOf P 50 = some (.inr [(0, 1), (1, 1)]) := by kernel_rfl
@[go_sem] theorem ps50 : plainS P 50 = some [0, 0] := by kernel_rfl
@[go_sem] theorem ag52 : aggO P 52 = some false := by kernel_rfl
@[go_sem] theorem el52 : Am.elemOf P 52 = some 56 := by kernel_rfl
@[go_sem] theorem ce52 : P.cellsOf 52 = 1 := by kernel_rfl
@[go_sem] theorem by52 : P.bytesOf 52 = 24 := by kernel_rfl
@[go_sem] theorem in52 : (P.info? 52).isSome = true := by kernel_rfl
@[go_sem] theorem ze52 : zeroOf P 52 = some (.nils) := by kernel_rfl
@[go_sem] theorem ki52 : kindOf P 52 = none := by kernel_rfl
@[go_sem] theorem un52 : P.underlying 52 = some (.slice 56) := by kernel_rfl
@[go_sem] theorem ag54 : aggO P 54 = some false := by kernel_rfl
@[go_sem] theorem el54 : Am.elemOf P 54 = none := by kernel_rfl
@[go_sem] theorem ce54 : P.cellsOf 54 = 1 := by kernel_rfl
@[go_sem] theorem by54 : P.bytesOf 54 = 8 := by kernel_rfl
@[go_sem] theorem in54 : (P.info? 54).isSome = true := by kernel_rfl
@[go_sem] theorem ze54 : zeroOf P 54 = some (.nilf) := by kernel_rfl
@[go_sem] theorem ki54 : kindOf P 54 = none := by kernel_rfl
@[go_sem] theorem ag56 : aggO P 56 = some true := by kernel_rfl
@[go_sem] theorem el56 : Am.elemOf P 56 = none := by kernel_rfl
@[go_sem] theorem ce56 : P.cellsOf 56 = 4 := by kernel_rfl
@[go_sem] theorem by56 : P.bytesOf 56 = 56 := by kernel_rfl
@[go_sem] theorem in56 : (P.info? 56).isSome = true := by kernel_rfl
@[go_sem] theorem ze56 : zeroOf P 56 = some (.agg [.str [], .int .i64 (0), .nilf, .nils]) := by kernel_rfl
@[go_sem] theorem ki56 : kindOf P 56 = none := by kernel_rfl
@[go_sem] theorem fi56_0 : fieldOf P 56 0 = some (0, 1, false) := by kernel_rfl
@[go_sem] theorem fi56_1 : fieldOf P 56 1 = some (1, 1, false) := by kernel_rfl
@[go_sem] theorem fi56_2 : fieldOf P 56 2 = some (2, 1, false) := by kernel_rfl
@[go_sem] theorem fi56_3 : fieldOf P 56 3 = some (3, 1, false) := by kernel_rfl
@[go_sem] theorem pl56 : placesOf P 56 = some (.inr [(0, 1), (1, 1), (2, 1), (3, 1)]) := by kernel_rfl
@[go_sem] theorem ag67 : aggO P 67 = some true := by kernel_rfl
@[go_sem] theorem el67 : Am.elemOf P 67 = none := by kernel_rfl
@[go_sem] theorem ce67 : P.cellsOf 67 = 2 := by kernel_rfl
@[go_sem] theorem by67 : P.bytesOf 67 = 24 := by kernel_rfl
@[go_sem] theorem in67 : (P.info? 67).isSome = true := by kernel_rfl
@[go_sem] theorem ze67 : zeroOf P 67 = some (.agg [.str [], .int .i64 (0)]) := by kernel_rfl
@[go_sem] theorem ki67 : kindOf P 67 = none := by kernel_rfl
@[go_sem] theorem fi67_0 : fieldOf P 67 0 = some (0, 1, false) := by kernel_rfl
@[go_sem] theorem fi67_1 : fieldOf P 67 1 = some (1, 1, false) := by kernel_rfl
@[go_sem] theorem pl67 : placesOf P 67 = some (.inr [(0, 1), (1, 1)]) := by kernel_rfl
@[go_sem] theorem ps67 : plainS P 67 = some [1, 0] := by kernel_rfl
@[go_sem] theorem ag69 : aggO P 69 = some true := by kernel_rfl
@[go_sem] theorem el69 : Am.elemOf P 69 = none := by kernel_rfl
@[go_sem] theorem ce69 : P.cellsOf 69 = 6 := by kernel_rfl
@[go_sem] theorem by69 : P.bytesOf 69 = 56 := by kernel_rfl
@[go_sem] theorem in69 : (P.info? 69).isSome = true := by kernel_rfl
@[go_sem] theorem ze69 : zeroOf P 69 = some (.agg [.str [], .int .i64 (0), .int .i64 (0), .int .i64 (0), .int .i64 (0), .bool false]) := by kernel_rfl
@[go_sem] theorem ki69 : kindOf P 69 = none := by kernel_rfl
@[go_sem] theorem fi69_0 : fieldOf P 69 0 = some (0, 1, false) := by kernel_rfl
@[go_sem] theorem fi69_1 : fieldOf P 69 1 = some (1, 1, false) := by kernel_rfl
@[go_sem] theorem fi69_2 : fieldOf P 69 2 = some (2, 1, false) := by kernel_rfl
@[go_sem] theorem fi69_3 : fieldOf P 69 3 = some (3, 1, false) := by kernel_rfl
@[go_sem] theorem fi69_4 : fieldOf P 69 4 = some (4, 1, false) := by kernel_rfl
@[go_sem] theorem fi69_5 : fieldOf P 69 5 = some (5, 1, false) := by kernel_rfl
@[go_sem] theorem pl69 : placesOf P 69 = some (.inr [(0, 1), (1, 1), (2, 1), (3, 1), (4, 1), (5, 1)]) := by kernel_rfl
@[go_sem] theorem ps69 : plainS P 69 = some [1, 0, 0, 0, 0, 2] := by kernel_rfl
@[go_sem] theorem ag71 : aggO P 71 = some false := by kernel_rfl
@[go_sem] theorem el71 : Am.elemOf P 71 = some 98 := by kernel_rfl
@[go_sem] theorem ce71 : P.cellsOf 71 = 1 := by kernel_rfl
@[go_sem] theorem by71 : P.bytesOf 71 = 24 := by kernel_rfl
@[go_sem] theorem in71 : (P.info? 71).isSome = true := by kernel_rfl
@[go_sem] theorem ze71 : zeroOf P 71 = some (.nils) := by kernel_rfl
@[go_sem] theorem ki71 : kindOf P 71 = none := by kernel_rfl
@[go_sem] theorem un71 : P.underlying 71 = some (.slice 98) := by kernel_rfl
@[go_sem] theorem ag73 : aggO P 73 = some true := by kernel_rfl
@[go_sem] theorem el73 : Am.elemOf P 73 = none := by kernel_rfl
@[go_sem] theorem ce73 : P.cellsOf 73 = 5 := by kernel_rfl
@[go_sem] theorem by73 : P.bytesOf 73 = 80 := by kernel_rfl
@[go_sem] theorem in73 : (P.info? 73).isSome = true := by kernel_rfl
@[go_sem] theorem ze73 : zeroOf P 73 = some (.agg [.str [], .int .i64 (0), .int .i64 (0), .nils, .nils]) := by kernel_rfl
@[go_sem] theorem ki73 : kindOf P 73 = none := by kernel_rfl
@[go_sem] theorem fi73_0 : fieldOf P 73 0 = some (0, 1, false) := by kernel_rfl
@[go_sem] theorem fi73_1 : fieldOf P 73 1 = some (1, 1, false) := by kernel_rfl
@[go_sem] theorem fi73_2 : fieldOf P 73 2 = some (2, 1, false) := by kernel_rfl
@[go_sem] theorem fi73_3 : fieldOf P 73 3 = some (3, 1, false) := by kernel_rfl
@[go_sem] theorem fi73_4 : fieldOf P 73 4 = some (4, 1, false) := by kernel_rfl
@[go_sem] theorem pl73 : placesOf P 73 = some (.inr [(0, 1), (1, 1), (2, 1), (3, 1), (4, 1)]) := by kernel_rfl
@[go_sem] theorem ag75 : aggO P 75 = some true := by kernel_rfl
@[go_sem] theorem el75 : Am.elemOf P 75 = none := by kernel_rfl
@[go_sem] theorem ce75 : P.cellsOf 75 = 2 := by kernel_rfl
@[go_sem] theorem by75 : P.bytesOf 75 = 40 := by kernel_rfl
@[go_sem] theorem in75 : (P.info? 75).isSome = true := by kernel_rfl
@[go_sem] theorem ze75 : zeroOf P 75 = some (.agg [.str [], .nils]) := by kernel_rfl
@[go_sem] theorem ki75 : kindOf P 75 = none := by kernel_rfl
@[go_sem] theorem fi75_0 : fieldOf P 75 0 = some (0, 1, false) := by kernel_rfl
@[go_sem] theorem fi75_1 : fieldOf P 75 1 = some (1, 1, false) := by kernel_rfl
@[go_sem] theorem pl75 : placesOf P 75 = some (.inr [(0, 1), (1, 1)]) := by kernel_rfl
@[go_sem] theorem ag84 : aggO P 84 = some true := by kernel_rfl
@[go_sem] theorem el84 : Am.elemOf P 84 = none := by kernel_rfl
@[go_sem] theorem ce84 : P.cellsOf 84 = 6 := by kernel_rfl
@[go_sem] theorem by84 : P.bytesOf 84 = 56 := by kernel_rfl
@[go_sem] theorem in84 : (P.info? 84).isSome = true := by kernel_rfl
@[go_sem] theorem ze84 : zeroOf P 84 = some (.agg [.str [], .int .i64 (0), .int .i64 (0), .int .i64 (0), .int .i64 (0), .int .i64 (0)]) := by kernel_rfl
@[go_sem] theorem ki84 : kindOf P 84 = none := by kernel_rfl
@[go_sem] theorem fi84_0 : fieldOf P 84 0 = some (0, 1, false) := by kernel_rfl
@[go_sem] theorem fi84_1 : fieldOf P 84 1 = some (1, 1, false) := by kernel_rfl
@[go_sem] theorem fi84_2 : fieldOf P 84 2 = some (2, 1, false) := by kernel_rfl
@[go_sem] theorem fi84_3 : fieldOf P 84 3 = some (3, 1, false) := by kernel_rfl
@[go_sem] theorem fi84_4 : fieldOf P 84 4 = some (4, 1, false) := by kernel_rfl
@[go_sem] theorem fi84_5 : fieldOf P 84 5 = some (5, 1, false) := by kernel_rfl
@[go_sem] theorem pl84 : placesOf P 84 = some (.inr [(0, 1), (1, 1), (2, 1), (3, 1), (4, 1), (5, 1)]) := by kernel_rfl
@[go_sem] theorem ps84 : plainS P 84 = some [1, 0, 0, 0, 0, 0] := by kernel_rfl
@[go_sem] theorem ag96 : aggO P 96 = some false := by kernel_rfl
@[go_sem] theorem el96 : Am.elemOf P 96 = some 102 := by kernel_rfl
@[go_sem] theorem ce96 : P.cellsOf 96 = 1 := by kernel_rfl
@[go_sem] theorem by96 : P.bytesOf 96 = 24 := by kernel_rfl
@[go_sem] theorem in96 : (P.info? 96).isSome = true := by kernel_rfl
@[go_sem] theorem ze96 : zeroOf P 96 = some (.nils) := by kernel_rfl
@[go_sem] theorem ki96 : kindOf P 96 = none := by kernel_rfl
@[go_sem] theorem un96 : P.underlying 96 = some (.slice 102) := by kernel_rfl
@[go_sem] theorem ag98 : aggO P 98 = some true := by kernel_rfl
@[go_sem] theorem el98 : Am.elemOf P 98 = none := by kernel_rfl
@[go_sem] theorem ce98 : P.cellsOf 98 = 6 := by kernel_rfl
@[go_sem] theorem by98 : P.bytesOf 98 = 88 := by kernel_rfl
@[go_sem] theorem in98 : (P.info? 98).isSome = true := by kernel_rfl
@[go_sem] theorem ze98 : zeroOf P 98 = some (.agg [.str [], .int .i64 (0), .int .i64 (0), .nils, .nils, .bool false]) := by kernel_rfl
@[go_sem] theorem ki98 : kindOf P 98 = none := by kernel_rfl
@[go_sem] theorem fi98_0 : fieldOf P 98 0 = some (0, 1, false) := by kernel_rfl
@[go_sem] theorem fi98_1 : fieldOf P 98 1 = some (1, 1, false) := by kernel_rfl
@[go_sem] theorem fi98_2 : fieldOf P 98 2 = some (2, 1, false) := by kernel_rfl
@[go_sem] theorem fi98_3 : fieldOf P 98 3 = some (3, 1, false) := by kernel_rfl
@[go_sem] theorem fi98_4 : fieldOf P 98 4 = some (4, 1, false) := by kernel_rfl
@[go_sem] theorem fi98_5 : fieldOf P 98 5 = some (5, 1, false) := by kernel_rfl
@[go_sem] theorem pl98 : placesOf P 98 = some (.inr [(0, 1), (1, 1), (2, 1), (3, 1), (4, 1), (5, 1)]) := by kernel_rfl
@[go_sem] theorem ag102 : aggO P 102 = some true := by kernel_rfl
@[go_sem] theorem el102 : Am.elemOf P 102 = none := by kernel_rfl
@[go_sem] theorem ce102 : P.cellsOf 102 = 5 := by kernel_rfl
@[go_sem] theorem by102 : P.bytesOf 102 = 72 := by kernel_rfl
@[go_sem] theorem in102 : (P.info? 102).isSome = true := by kernel_rfl
@[go_sem] theorem ze102 : zeroOf P 102 = some (.agg [.int .i64 (0), .int .i64 (0), .int .i64 (0), .nils, .nils]) := by kernel_rfl
@[go_sem] theorem ki102 : kindOf P 102 = none := by kernel_rfl
@[go_sem] theorem fi102_0 : fieldOf P 102 0 = some (0, 1, false) := by kernel_rfl
@[go_sem] theorem fi102_1 : fieldOf P 102 1 = some (1, 1, false) := by kernel_rfl
@[go_sem] theorem fi102_2 : fieldOf P 102 2 = some (2, 1, false) := by kernel_rfl
@[go_sem] theorem fi102_3 : fieldOf P 102 3 = some (3, 1, false) := by kernel_rfl
@[go_sem] theorem fi102_4 : fieldOf P 102 4 = some (4, 1, false) := by kernel_rfl
@[go_sem] theorem pl102 : placesOf P 102 = some (.inr [(0, 1), (1, 1), (2, 1), (3, 1), (4, 1)]) := by kernel_rfl
/-! lariat/lariatlaw49.LibMay -/
noncomputable def b3 : Code := Try.f3.body.getD .skip
noncomputable def r3 (id : Nat) : Code := rg b3 id
def o3_0 : List Lite := [⟨some 4, 4, .assign (.const (.bool false)), none⟩]
theorem rg3_0 (s : St) : codeX P hints hint3 (r3 0) s = (runL P call hint3 o3_0 s).bind fun s' => some (.normal, prune [0, 1] s') := rg_eq (id := 0) (by kernel_rfl) (by kernel_rfl) s
def o3_1 : List Lite := [⟨some 11, 22, .call { callee := .value (.func 5), args := #[], argTypes := #[] }, none⟩,
 ⟨some 5, 22, .assign (.tmp 11), none⟩]
theorem rg3_1 (s : St) : codeX P hints hint3 (r3 1) s = (runL P call hint3 o3_1 s).bind fun s' => some (.normal, prune [0, 1, 5] s') := rg_eq (id := 1) (by kernel_rfl) (by kernel_rfl) s
def o3_2 : List Lite := [⟨some 12, 22, .move (.tmp 5), none⟩,
 ⟨some 13, 3, .call { callee := .builtin .len, args := #[(.tmp 12)], argTypes := #[22] }, none⟩,
 ⟨some 14, 4, .binOp .neq 3 (.tmp 13) (.const (.int .i64 (5))) 3, none⟩]
theorem rg3_2 (s : St) : codeX P hints hint3 (r3 2) s = (runL P call hint3 o3_2 s).bind fun s' => some (.normal, prune [0, 1, 5, 14] s') := rg_eq (id := 2) (by kernel_rfl) (by kernel_rfl) s
def o3_3 : List Lite := [⟨some 4, 4, .assign (.const (.bool false)), none⟩]
theorem rg3_3 (s : St) : codeX P hints hint3 (r3 3) s = (runL P call hint3 o3_3 s).bind fun s' => some (.normal, prune [4] s') := rg_eq (id := 3) (by kernel_rfl) (by kernel_rfl) s
def o3_4 : List Lite := [⟨some 15, 22, .move (.tmp 5), none⟩,
 ⟨some 16, 5, .move (.tmp 0), none⟩,
 ⟨some 17, 3, .convert 5 3 (.tmp 16), none⟩,
 ⟨some 18, 3, .binOp .rem 3 (.tmp 17) (.const (.int .i64 (5))) 3, none⟩,
 ⟨some 19, 0, .indexAddr 22 (.tmp 15) (.tmp 18), none⟩,
 ⟨some 20, 9, .load 9 (.tmp 19), none⟩,
 ⟨some 6, 9, .assign (.tmp 20), none⟩]
theorem rg3_4 (s : St) : codeX P hints hint3 (r3 4) s = (runL P call hint3 o3_4 s).bind fun s' => some (.normal, prune [1, 6] s') := rg_eq (id := 4) (by kernel_rfl) (by kernel_rfl) s
def o3_5 : List Lite := [⟨some 22, 9, .move (.tmp 6), none⟩,
 ⟨some 23, 3, .move (.tmp 1), none⟩,
 ⟨some 24, 32, .call { callee := .value (.func 6), args := #[(.tmp 22), (.tmp 23)], argTypes := #[9, 3] }, none⟩,
 ⟨some 21, 32, .move (.tmp 24), none⟩,
 ⟨some 25, 30, .extract (.tmp 21) 0, none⟩,
 ⟨some 26, 31, .extract (.tmp 21) 1, none⟩,
 ⟨some 7, 0, .alloc 30, none⟩,
 ⟨none, 0, .store 30 (.tmp 7) (.tmp 25), none⟩,
 ⟨some 8, 31, .assign (.tmp 26), none⟩]
theorem rg3_5 (s : St) : codeX P hints hint3 (r3 5) s = (runL P call hint3 o3_5 s).bind fun s' => some (.normal, prune [6, 7, 8] s') := rg_eq (id := 5) (by kernel_rfl) (by kernel_rfl) s
def o3_6 : List Lite := [⟨some 27, 31, .move (.tmp 8), none⟩,
 ⟨some 28, 4, .binOp .neq 31 (.tmp 27) (.const (.int .i64 (0))) 31, none⟩]
theorem rg3_6 (s : St) : codeX P hints hint3 (r3 6) s = (runL P call hint3 o3_6 s).bind fun s' => some (.normal, prune [6, 7, 8, 28] s') := rg_eq (id := 6) (by kernel_rfl) (by kernel_rfl) s
def o3_7 : List Lite := [⟨some 29, 31, .move (.tmp 8), none⟩,
 ⟨some 30, 4, .binOp .eql 31 (.tmp 29) (.const (.int .i64 (10))) 31, none⟩,
 ⟨some 31, 4, .move (.tmp 30), none⟩,
 ⟨some 32, 4, .call { callee := .value (.func 7), args := #[], argTypes := #[] }, some (31, true)⟩,
 ⟨some 33, 4, .pick (.tmp 31) (.tmp 32) (.const (.bool false)), none⟩,
 ⟨some 4, 4, .assign (.tmp 33), none⟩]
theorem rg3_7 (s : St) : codeX P hints hint3 (r3 7) s = (runL P call hint3 o3_7 s).bind fun s' => some (.normal, prune [4] s') := rg_eq (id := 7) (by kernel_rfl) (by kernel_rfl) s
def o3_8 : List Lite := [⟨some 34, 9, .move (.tmp 6), none⟩,
 ⟨some 35, 35, .call { callee := .value (.func 8), args := #[(.tmp 34)], argTypes := #[9] }, none⟩,
 ⟨some 9, 35, .assign (.tmp 35), none⟩]
theorem rg3_8 (s : St) : codeX P hints hint3 (r3 8) s = (runL P call hint3 o3_8 s).bind fun s' => some (.normal, prune [7, 9] s') := rg_eq (id := 8) (by kernel_rfl) (by kernel_rfl) s
def o3_9 : List Lite := [⟨some 10, 3, .assign (.const (.int .i64 (0))), none⟩]
theorem rg3_9 (s : St) : codeX P hints hint3 (r3 9) s = (runL P call hint3 o3_9 s).bind fun s' => some (.normal, prune [7, 9, 10] s') := rg_eq (id := 9) (by kernel_rfl) (by kernel_rfl) s
def o3_10 : List Lite := [⟨some 36, 3, .move (.tmp 10), none⟩,
 ⟨some 37, 35, .move (.tmp 9), none⟩,
 ⟨some 38, 3, .call { callee := .builtin .len, args := #[(.tmp 37)], argTypes := #[35] }, none⟩,
 ⟨some 39, 4, .binOp .lss 3 (.tmp 36) (.tmp 38) 3, none⟩]
theorem rg3_10 (s : St) : codeX P hints hint3 (r3 10) s = (runL P call hint3 o3_10 s).bind fun s' => some (.normal, prune [7, 9, 10, 39] s') := rg_eq (id := 10) (by kernel_rfl) (by kernel_rfl) s
def o3_12 : List LF := [⟨some 42, none, 35, .move (.tmp 9), [9], [], false, false, false, false, true⟩,
 ⟨some 43, none, 3, .move (.tmp 10), [10], [], false, false, false, false, true⟩,
 ⟨some 44, none, 0, .indexAddr 35 (.tmp 42) (.tmp 43), [42, 43], [], false, false, true, false, true⟩,
 ⟨some 45, none, 38, .load 38 (.tmp 44), [44], [], false, false, true, false, true⟩,
 ⟨some 46, none, 31, .call { callee := .value (.func 9), args := #[(.tmp 45)], argTypes := #[38] }, [45], [], false, true, true, true, false⟩,
 ⟨some 47, none, 4, .binOp .neq 31 (.tmp 46) (.const (.int .i64 (0))) 31, [46], [], false, false, false, false, true⟩,
 ⟨some 48, none, 4, .move (.tmp 47), [47], [], false, false, false, false, true⟩,
 ⟨some 49, some (48, false), 35, .move (.tmp 9), [9, 48], [], false, false, false, false, true⟩,
 ⟨some 50, some (48, false), 3, .move (.tmp 10), [10, 48], [], false, false, false, false, true⟩,
 ⟨some 51, some (48, false), 0, .indexAddr 35 (.tmp 49) (.tmp 50), [49, 50, 48], [], false, false, true, false, true⟩,
 ⟨some 52, some (48, false), 38, .load 38 (.tmp 51), [51, 48], [], false, false, true, false, true⟩,
 ⟨some 53, some (48, false), 39, .call { callee := .value (.func 10), args := #[(.tmp 52)], argTypes := #[38] }, [52, 48], [], true, true, true, true, false⟩,
 ⟨some 54, some (48, false), 0, .fieldAddr 30 (.tmp 7) 4, [7, 48], [11], false, false, true, false, true⟩,
 ⟨some 55, some (48, false), 28, .load 28 (.tmp 54), [54, 48], [11], false, false, true, false, true⟩,
 ⟨some 56, some (48, false), 3, .call { callee := .builtin .len, args := #[(.tmp 55)], argTypes := #[28] }, [55, 48], [11], false, false, true, false, true⟩,
 ⟨some 57, some (48, false), 41, .convert 3 41 (.tmp 56), [56, 48], [11], false, false, false, false, true⟩,
 ⟨some 58, some (48, false), 39, .binOp .shr 39 (.tmp 53) (.tmp 57) 41, [53, 57, 48], [], false, false, false, false, true⟩,
 ⟨some 59, some (48, false), 4, .binOp .neq 39 (.tmp 58) (.const (.int .u64 (0))) 39, [58, 48], [], false, false, false, false, true⟩,
 ⟨some 60, none, 4, .pick (.tmp 48) (.const (.bool true)) (.tmp 59), [48, 59], [], false, false, false, false, true⟩]
theorem rg3_12 (s : St) : codeX P hints hint3 (r3 12) s = (runC P call hint3 o3_12 (s, hist0 s) []).bind fun s' => some (.normal, prune [7, 9, 10, 60] s') := rgD_eq (id := 12) (ns := [false, false, false, false, false, false, false, false, false, false, false, true, false, false, false, false, false, false, false]) (us := [[], [], [], [], [], [], [], [], [], [], [], [], [11], [11], [11], [11], [], [], []]) (by kernel_rfl) (by kernel_rfl) s
def o3_13 : List Lite := [⟨some 4, 4, .assign (.const (.bool false)), none⟩]
theorem rg3_13 (s : St) : codeX P hints hint3 (r3 13) s = (runL P call hint3 o3_13 s).bind fun s' => some (.normal, prune [4] s') := rg_eq (id := 13) (by kernel_rfl) (by kernel_rfl) s
def o3_11 : List Lite := [⟨some 40, 3, .move (.tmp 10), none⟩,
 ⟨some 41, 3, .binOp .add 3 (.tmp 40) (.const (.int .i64 (1))) 3, none⟩,
 ⟨some 10, 3, .assign (.tmp 41), none⟩]
theorem rg3_11 (s : St) : codeX P hints hint3 (r3 11) s = (runL P call hint3 o3_11 s).bind fun s' => some (.normal, prune [7, 9, 10] s') := rg_eq (id := 11) (by kernel_rfl) (by kernel_rfl) s
def o3_14 : List Lite := [⟨some 61, 35, .move (.tmp 9), none⟩,
 ⟨some 62, 3, .call { callee := .builtin .len, args := #[(.tmp 61)], argTypes := #[35] }, none⟩,
 ⟨some 63, 4, .binOp .eql 3 (.tmp 62) (.const (.int .i64 (3))) 3, none⟩,
 ⟨some 64, 4, .move (.tmp 63), none⟩,
 ⟨some 65, 30, .load 30 (.tmp 7), some (64, true)⟩,
 ⟨some 66, 43, .call { callee := .value (.func 11), args := #[(.tmp 65)], argTypes := #[30] }, some (64, true)⟩,
 ⟨some 67, 31, .field 43 (.tmp 66) 0, some (64, true)⟩,
 ⟨some 68, 4, .binOp .eql 31 (.tmp 67) (.const (.int .i64 (0))) 31, some (64, true)⟩,
 ⟨some 69, 4, .pick (.tmp 64) (.tmp 68) (.const (.bool false)), none⟩,
 ⟨some 70, 4, .move (.tmp 69), none⟩,
 ⟨some 71, 4, .call { callee := .value (.func 7), args := #[], argTypes := #[] }, some (70, true)⟩,
 ⟨some 72, 4, .pick (.tmp 70) (.tmp 71) (.const (.bool false)), none⟩,
 ⟨some 4, 4, .assign (.tmp 72), none⟩]
theorem rg3_14 (s : St) : codeX P hints hint3 (r3 14) s = (runL P call hint3 o3_14 s).bind fun s' => some (.normal, prune [4] s') := rg_eq (id := 14) (by kernel_rfl) (by kernel_rfl) s
noncomputable def L3_0 : Code := .loop (.seq (.seq (r3 10) (.cond (.tmp 39) .skip (.exit 0))) (.seq (.block 1 (.seq (r3 12) (.cond (.tmp 60) (.seq (r3 13) .ret) .skip))) (r3 11)))
theorem L3_0_eq (s : St) : codeX P hints hint3 L3_0 s = (codeX P hints hint3 (.seq (.seq (r3 10) (.cond (.tmp 39) .skip (.exit 0))) (.seq (.block 1 (.seq (r3 12) (.cond (.tmp 60) (.seq (r3 13) .ret) .skip))) (r3 11))) s).bind (thenX P hints hint3 L3_0) := codeX_loop
theorem eq3 (ds : List D) (H : List Ob) (hl : ds.length = 2) : call 3 ds H = (codeX P hints hint3 (.seq (r3 0) (.seq (r3 1) (.seq (.seq (r3 2) (.cond (.tmp 14) (.seq (r3 3) .ret) .skip)) (.seq (r3 4) (.seq (r3 5) (.seq (.seq (r3 6) (.cond (.tmp 28) (.seq (r3 7) .ret) .skip)) (.seq (r3 8) (.seq (.seq (r3 9) (.block 0 L3_0)) (.seq (r3 14) .ret))))))))) (enter ds H)).bind (leaveR P false [.tmp 4] H.length) :=
  callX_leave Try.func3 (by kernel_rfl) hl (by kernel_rfl) (by kernel_rfl) rfl
/-! lariat/lariatlaw49.LibTells -/
noncomputable def b4 : Code := Try.f4.body.getD .skip
noncomputable def r4 (id : Nat) : Code := rg b4 id
def o4_0 : List Lite := [⟨some 4, 4, .assign (.const (.bool false)), none⟩]
theorem rg4_0 (s : St) : codeX P hints hint4 (r4 0) s = (runL P call hint4 o4_0 s).bind fun s' => some (.normal, prune [0, 1] s') := rg_eq (id := 0) (by kernel_rfl) (by kernel_rfl) s
def o4_1 : List Lite := [⟨some 12, 9, .move (.tmp 0), none⟩,
 ⟨some 13, 3, .call { callee := .builtin .len, args := #[(.tmp 12)], argTypes := #[9] }, none⟩,
 ⟨some 14, 4, .binOp .gtr 3 (.tmp 13) (.const (.int .i64 (100))) 3, none⟩]
theorem rg4_1 (s : St) : codeX P hints hint4 (r4 1) s = (runL P call hint4 o4_1 s).bind fun s' => some (.normal, prune [0, 1, 14] s') := rg_eq (id := 1) (by kernel_rfl) (by kernel_rfl) s
def o4_2 : List Lite := [⟨some 15, 4, .call { callee := .value (.func 7), args := #[], argTypes := #[] }, none⟩,
 ⟨some 4, 4, .assign (.tmp 15), none⟩]
theorem rg4_2 (s : St) : codeX P hints hint4 (r4 2) s = (runL P call hint4 o4_2 s).bind fun s' => some (.normal, prune [4] s') := rg_eq (id := 2) (by kernel_rfl) (by kernel_rfl) s
def o4_3 : List Lite := [⟨some 17, 9, .move (.tmp 0), none⟩,
 ⟨some 18, 3, .move (.tmp 1), none⟩,
 ⟨some 19, 32, .call { callee := .value (.func 6), args := #[(.tmp 17), (.tmp 18)], argTypes := #[9, 3] }, none⟩,
 ⟨some 16, 32, .move (.tmp 19), none⟩,
 ⟨some 20, 30, .extract (.tmp 16) 0, none⟩,
 ⟨some 21, 31, .extract (.tmp 16) 1, none⟩,
 ⟨some 5, 0, .alloc 30, none⟩,
 ⟨none, 0, .store 30 (.tmp 5) (.tmp 20), none⟩,
 ⟨some 6, 31, .assign (.tmp 21), none⟩]
theorem rg4_3 (s : St) : codeX P hints hint4 (r4 3) s = (runL P call hint4 o4_3 s).bind fun s' => some (.normal, prune [0, 1, 5, 6] s') := rg_eq (id := 3) (by kernel_rfl) (by kernel_rfl) s
def o4_4 : List Lite := [⟨some 23, 9, .move (.tmp 0), none⟩,
 ⟨some 24, 3, .move (.tmp 1), none⟩,
 ⟨some 25, 32, .call { callee := .value (.func 12), args := #[(.tmp 23), (.tmp 24)], argTypes := #[9, 3] }, none⟩,
 ⟨some 22, 32, .move (.tmp 25), none⟩,
 ⟨some 26, 30, .extract (.tmp 22) 0, none⟩,
 ⟨some 27, 31, .extract (.tmp 22) 1, none⟩,
 ⟨some 7, 0, .alloc 30, none⟩,
 ⟨none, 0, .store 30 (.tmp 7) (.tmp 26), none⟩,
 ⟨some 8, 31, .assign (.tmp 27), none⟩]
theorem rg4_4 (s : St) : codeX P hints hint4 (r4 4) s = (runL P call hint4 o4_4 s).bind fun s' => some (.normal, prune [0, 5, 6, 7, 8] s') := rg_eq (id := 4) (by kernel_rfl) (by kernel_rfl) s
def o4_5 : List Lite := [⟨some 28, 9, .move (.tmp 0), none⟩,
 ⟨some 29, 35, .call { callee := .value (.func 8), args := #[(.tmp 28)], argTypes := #[9] }, none⟩,
 ⟨some 30, 9, .move (.tmp 0), none⟩,
 ⟨some 31, 35, .call { callee := .value (.func 13), args := #[(.tmp 30)], argTypes := #[9] }, none⟩,
 ⟨some 9, 35, .assign (.tmp 29), none⟩,
 ⟨some 10, 35, .assign (.tmp 31), none⟩]
theorem rg4_5 (s : St) : codeX P hints hint4 (r4 5) s = (runL P call hint4 o4_5 s).bind fun s' => some (.normal, prune [5, 6, 7, 8, 9, 10] s') := rg_eq (id := 5) (by kernel_rfl) (by kernel_rfl) s
def o4_6 : List Lite := [⟨some 32, 31, .move (.tmp 6), none⟩,
 ⟨some 33, 31, .move (.tmp 8), none⟩,
 ⟨some 34, 4, .binOp .neq 31 (.tmp 32) (.tmp 33) 31, none⟩,
 ⟨some 35, 4, .move (.tmp 34), none⟩,
 ⟨some 36, 30, .load 30 (.tmp 5), some (35, false)⟩,
 ⟨some 37, 30, .load 30 (.tmp 7), some (35, false)⟩,
 ⟨some 38, 4, .call { callee := .value (.func 14), args := #[(.tmp 36), (.tmp 37)], argTypes := #[30, 30] }, some (35, false)⟩,
 ⟨some 39, 4, .unOp .not 4 (.tmp 38), some (35, false)⟩,
 ⟨some 40, 4, .pick (.tmp 35) (.const (.bool true)) (.tmp 39), none⟩,
 ⟨some 41, 4, .move (.tmp 40), none⟩,
 ⟨some 42, 35, .move (.tmp 9), some (41, false)⟩,
 ⟨some 43, 3, .call { callee := .builtin .len, args := #[(.tmp 42)], argTypes := #[35] }, some (41, false)⟩,
 ⟨some 44, 35, .move (.tmp 10), some (41, false)⟩,
 ⟨some 45, 3, .call { callee := .builtin .len, args := #[(.tmp 44)], argTypes := #[35] }, some (41, false)⟩,
 ⟨some 46, 4, .binOp .neq 3 (.tmp 43) (.tmp 45) 3, some (41, false)⟩,
 ⟨some 47, 4, .pick (.tmp 41) (.const (.bool true)) (.tmp 46), none⟩,
 ⟨some 48, 4, .move (.tmp 47), none⟩,
 ⟨some 49, 22, .call { callee := .value (.func 5), args := #[], argTypes := #[] }, some (48, false)⟩,
 ⟨some 50, 22, .call { callee := .value (.func 16), args := #[], argTypes := #[] }, some (48, false)⟩,
 ⟨some 51, 4, .call { callee := .value (.func 15), args := #[(.tmp 49), (.tmp 50)], argTypes := #[22, 22] }, some (48, false)⟩,
 ⟨some 52, 4, .unOp .not 4 (.tmp 51), some (48, false)⟩,
 ⟨some 53, 4, .pick (.tmp 48) (.const (.bool true)) (.tmp 52), none⟩]
theorem rg4_6 (s : St) : codeX P hints hint4 (r4 6) s = (runL P call hint4 o4_6 s).bind fun s' => some (.normal, prune [9, 10, 53] s') := rg_eq (id := 6) (by kernel_rfl) (by kernel_rfl) s
def o4_7 : List Lite := [⟨some 4, 4, .assign (.const (.bool false)), none⟩]
theorem rg4_7 (s : St) : codeX P hints hint4 (r4 7) s = (runL P call hint4 o4_7 s).bind fun s' => some (.normal, prune [4] s') := rg_eq (id := 7) (by kernel_rfl) (by kernel_rfl) s
def o4_8 : List Lite := [⟨some 11, 3, .assign (.const (.int .i64 (0))), none⟩]
theorem rg4_8 (s : St) : codeX P hints hint4 (r4 8) s = (runL P call hint4 o4_8 s).bind fun s' => some (.normal, prune [9, 10, 11] s') := rg_eq (id := 8) (by kernel_rfl) (by kernel_rfl) s
def o4_9 : List Lite := [⟨some 54, 3, .move (.tmp 11), none⟩,
 ⟨some 55, 35, .move (.tmp 9), none⟩,
 ⟨some 56, 3, .call { callee := .builtin .len, args := #[(.tmp 55)], argTypes := #[35] }, none⟩,
 ⟨some 57, 4, .binOp .lss 3 (.tmp 54) (.tmp 56) 3, none⟩]
theorem rg4_9 (s : St) : codeX P hints hint4 (r4 9) s = (runL P call hint4 o4_9 s).bind fun s' => some (.normal, prune [9, 10, 11, 57] s') := rg_eq (id := 9) (by kernel_rfl) (by kernel_rfl) s
def o4_11 : List LF := [⟨some 60, none, 35, .move (.tmp 9), [9], [], false, false, false, false, true⟩,
 ⟨some 61, none, 3, .move (.tmp 11), [11], [], false, false, false, false, true⟩,
 ⟨some 62, none, 0, .indexAddr 35 (.tmp 60) (.tmp 61), [60, 61], [], false, false, true, false, true⟩,
 ⟨some 63, none, 38, .load 38 (.tmp 62), [62], [], false, false, true, false, true⟩,
 ⟨some 64, none, 35, .move (.tmp 10), [10], [], false, false, false, false, true⟩,
 ⟨some 65, none, 3, .move (.tmp 11), [11], [], false, false, false, false, true⟩,
 ⟨some 66, none, 0, .indexAddr 35 (.tmp 64) (.tmp 65), [64, 65], [], false, false, true, false, true⟩,
 ⟨some 67, none, 38, .load 38 (.tmp 66), [66], [], false, false, true, false, true⟩,
 ⟨some 68, none, 4, .call { callee := .value (.func 17), args := #[(.tmp 63), (.tmp 67)], argTypes := #[38, 38] }, [63, 67], [], false, true, true, true, false⟩,
 ⟨some 69, none, 4, .unOp .not 4 (.tmp 68), [68], [], false, false, false, false, true⟩]
theorem rg4_11 (s : St) : codeX P hints hint4 (r4 11) s = (runC P call hint4 o4_11 (s, hist0 s) []).bind fun s' => some (.normal, prune [9, 10, 11, 69] s') := rgD_eq (id := 11) (ns := [false, false, false, false, false, false, false, false, false, false]) (us := [[], [], [], [], [], [], [], [], [], []]) (by kernel_rfl) (by kernel_rfl) s
def o4_12 : List Lite := [⟨some 4, 4, .assign (.const (.bool false)), none⟩]
theorem rg4_12 (s : St) : codeX P hints hint4 (r4 12) s = (runL P call hint4 o4_12 s).bind fun s' => some (.normal, prune [4] s') := rg_eq (id := 12) (by kernel_rfl) (by kernel_rfl) s
def o4_10 : List Lite := [⟨some 58, 3, .move (.tmp 11), none⟩,
 ⟨some 59, 3, .binOp .add 3 (.tmp 58) (.const (.int .i64 (1))) 3, none⟩,
 ⟨some 11, 3, .assign (.tmp 59), none⟩]
theorem rg4_10 (s : St) : codeX P hints hint4 (r4 10) s = (runL P call hint4 o4_10 s).bind fun s' => some (.normal, prune [9, 10, 11] s') := rg_eq (id := 10) (by kernel_rfl) (by kernel_rfl) s
def o4_13 : List Lite := [⟨some 70, 4, .call { callee := .value (.func 7), args := #[], argTypes := #[] }, none⟩,
 ⟨some 4, 4, .assign (.tmp 70), none⟩]
theorem rg4_13 (s : St) : codeX P hints hint4 (r4 13) s = (runL P call hint4 o4_13 s).bind fun s' => some (.normal, prune [4] s') := rg_eq (id := 13) (by kernel_rfl) (by kernel_rfl) s
noncomputable def L4_0 : Code := .loop (.seq (.seq (r4 9) (.cond (.tmp 57) .skip (.exit 0))) (.seq (.block 1 (.seq (r4 11) (.cond (.tmp 69) (.seq (r4 12) .ret) .skip))) (r4 10)))
theorem L4_0_eq (s : St) : codeX P hints hint4 L4_0 s = (codeX P hints hint4 (.seq (.seq (r4 9) (.cond (.tmp 57) .skip (.exit 0))) (.seq (.block 1 (.seq (r4 11) (.cond (.tmp 69) (.seq (r4 12) .ret) .skip))) (r4 10))) s).bind (thenX P hints hint4 L4_0) := codeX_loop
theorem eq4 (ds : List D) (H : List Ob) (hl : ds.length = 2) : call 4 ds H = (codeX P hints hint4 (.seq (r4 0) (.seq (.seq (r4 1) (.cond (.tmp 14) (.seq (r4 2) .ret) .skip)) (.seq (r4 3) (.seq (r4 4) (.seq (r4 5) (.seq (.seq (r4 6) (.cond (.tmp 53) (.seq (r4 7) .ret) .skip)) (.seq (.seq (r4 8) (.block 0 L4_0)) (.seq (r4 13) .ret)))))))) (enter ds H)).bind (leaveR P false [.tmp 4] H.length) :=
  callX_leave Try.func4 (by kernel_rfl) hl (by kernel_rfl) (by kernel_rfl) rfl
/-! lariat/lib.Model -/
noncomputable def b6 : Code := Try.f6.body.getD .skip
noncomputable def r6 (id : Nat) : Code := rg b6 id
def o6_0 : List Lite := [⟨some 4, 0, .alloc 30, none⟩,
 ⟨some 5, 31, .assign (.const (.int .i64 (0))), none⟩]
theorem rg6_0 (s : St) : codeX P hints hint6 (r6 0) s = (runL P call hint6 o6_0 s).bind fun s' => some (.normal, prune [0, 1, 4] s') := rg_eq (id := 0) (by kernel_rfl) (by kernel_rfl) s
def o6_1 : List Lite := [⟨some 8, 52, .call { callee := .value (.func 18), args := #[], argTypes := #[] }, none⟩,
 ⟨some 9, 3, .call { callee := .builtin .len, args := #[(.tmp 8)], argTypes := #[52] }, none⟩,
 ⟨some 10, 3, .move (.const (.int .i64 (0))), none⟩]
theorem rg6_1 (s : St) : codeX P hints hint6 (r6 1) s = (runL P call hint6 o6_1 s).bind fun s' => some (.normal, prune [0, 1, 4, 8, 9, 10] s') := rg_eq (id := 1) (by kernel_rfl) (by kernel_rfl) s
def o6_2 : List Lite := [⟨some 11, 0, .binOp .lss 3 (.tmp 10) (.tmp 9) 3, none⟩]
theorem rg6_2 (s : St) : codeX P hints hint6 (r6 2) s = (runL P call hint6 o6_2 s).bind fun s' => some (.normal, prune [0, 1, 4, 8, 9, 10, 11] s') := rg_eq (id := 2) (by kernel_rfl) (by kernel_rfl) s
def o6_3 : List Lite := [⟨some 12, 0, .indexAddr 52 (.tmp 8) (.tmp 10), none⟩,
 ⟨some 13, 56, .load 56 (.tmp 12), none⟩,
 ⟨some 7, 0, .alloc 56, none⟩,
 ⟨none, 0, .store 56 (.tmp 7) (.tmp 13), none⟩]
theorem rg6_3 (s : St) : codeX P hints hint6 (r6 3) s = (runL P call hint6 o6_3 s).bind fun s' => some (.normal, prune [0, 1, 4, 7, 8, 9, 10] s') := rg_eq (id := 3) (by kernel_rfl) (by kernel_rfl) s
def o6_4 : List Lite := [⟨some 14, 0, .fieldAddr 56 (.tmp 7) 0, none⟩,
 ⟨some 15, 9, .load 9 (.tmp 14), none⟩,
 ⟨some 16, 9, .move (.tmp 0), none⟩,
 ⟨some 17, 4, .binOp .neq 9 (.tmp 15) (.tmp 16) 9, none⟩]
theorem rg6_4 (s : St) : codeX P hints hint6 (r6 4) s = (runL P call hint6 o6_4 s).bind fun s' => some (.normal, prune [0, 1, 4, 7, 8, 9, 10, 17] s') := rg_eq (id := 4) (by kernel_rfl) (by kernel_rfl) s
def o6_5 : List Lite := [⟨some 18, 3, .move (.tmp 1), none⟩,
 ⟨some 19, 0, .fieldAddr 56 (.tmp 7) 1, none⟩,
 ⟨some 20, 3, .load 3 (.tmp 19), none⟩,
 ⟨some 21, 4, .binOp .lss 3 (.tmp 18) (.tmp 20) 3, none⟩,
 ⟨some 22, 4, .move (.tmp 21), none⟩,
 ⟨some 23, 3, .move (.tmp 1), some (22, false)⟩,
 ⟨some 24, 4, .binOp .gtr 3 (.tmp 23) (.const (.int .i64 (3))) 3, some (22, false)⟩,
 ⟨some 25, 4, .pick (.tmp 22) (.const (.bool true)) (.tmp 24), none⟩]
theorem rg6_5 (s : St) : codeX P hints hint6 (r6 5) s = (runL P call hint6 o6_5 s).bind fun s' => some (.normal, prune [1, 4, 7, 25] s') := rg_eq (id := 5) (by kernel_rfl) (by kernel_rfl) s
def o6_6 : List Lite := [⟨some 26, 30, .build 30 #[], none⟩,
 ⟨none, 0, .store 30 (.tmp 4) (.tmp 26), none⟩,
 ⟨some 5, 31, .assign (.const (.int .i64 (10))), none⟩]
theorem rg6_6 (s : St) : codeX P hints hint6 (r6 6) s = (runL P call hint6 o6_6 s).bind fun s' => some (.normal, prune [4, 5] s') := rg_eq (id := 6) (by kernel_rfl) (by kernel_rfl) s
def o6_7 : List Lite := [⟨some 27, 0, .fieldAddr 56 (.tmp 7) 2, none⟩,
 ⟨some 28, 54, .load 54 (.tmp 27), none⟩,
 ⟨some 29, 3, .move (.tmp 1), none⟩,
 ⟨some 30, 30, .call { callee := .value (.tmp 28), args := #[(.tmp 29)], argTypes := #[3] }, none⟩,
 ⟨none, 0, .store 30 (.tmp 4) (.tmp 30), none⟩,
 ⟨some 5, 31, .assign (.const (.int .i64 (0))), none⟩]
theorem rg6_7 (s : St) : codeX P hints hint6 (r6 7) s = (runL P call hint6 o6_7 s).bind fun s' => some (.normal, prune [4, 5] s') := rg_eq (id := 7) (by kernel_rfl) (by kernel_rfl) s
def o6_8 : List Lite := [⟨some 31, 3, .binOp .add 3 (.tmp 10) (.const (.int .i64 (1))) 3, none⟩,
 ⟨some 10, 3, .move (.tmp 31), none⟩]
theorem rg6_8 (s : St) : codeX P hints hint6 (r6 8) s = (runL P call hint6 o6_8 s).bind fun s' => some (.normal, prune [0, 1, 4, 8, 9, 10] s') := rg_eq (id := 8) (by kernel_rfl) (by kernel_rfl) s
def o6_9 : List Lite := [⟨some 32, 30, .build 30 #[], none⟩,
 ⟨none, 0, .store 30 (.tmp 4) (.tmp 32), none⟩,
 ⟨some 5, 31, .assign (.const (.int .i64 (6))), none⟩]
theorem rg6_9 (s : St) : codeX P hints hint6 (r6 9) s = (runL P call hint6 o6_9 s).bind fun s' => some (.normal, prune [4, 5] s') := rg_eq (id := 9) (by kernel_rfl) (by kernel_rfl) s
noncomputable def L6_0 : Code := .loop (.seq (r6 2) (.seq (.cond (.tmp 11) .skip (.exit 0)) (.seq (.block 1 (.seq (r6 3) (.seq (.seq (r6 4) (.cond (.tmp 17) (.exit 1) .skip)) (.seq (.seq (r6 5) (.cond (.tmp 25) (.seq (r6 6) .ret) .skip)) (.seq (r6 7) .ret))))) (r6 8))))
theorem L6_0_eq (s : St) : codeX P hints hint6 L6_0 s = (codeX P hints hint6 (.seq (r6 2) (.seq (.cond (.tmp 11) .skip (.exit 0)) (.seq (.block 1 (.seq (r6 3) (.seq (.seq (r6 4) (.cond (.tmp 17) (.exit 1) .skip)) (.seq (.seq (r6 5) (.cond (.tmp 25) (.seq (r6 6) .ret) .skip)) (.seq (r6 7) .ret))))) (r6 8)))) s).bind (thenX P hints hint6 L6_0) := codeX_loop
theorem eq6 (ds : List D) (H : List Ob) (hl : ds.length = 2) : call 6 ds H = (codeX P hints hint6 (.seq (r6 0) (.seq (.seq (r6 1) (.block 0 L6_0)) (.seq (r6 9) .ret))) (enter ds H)).bind (leaveR P false [.cell 4 30, .tmp 5] H.length) :=
  callX_leave Try.func6 (by kernel_rfl) hl (by kernel_rfl) (by kernel_rfl) rfl
/-! lariat/lib.Formulas -/
noncomputable def b8 : Code := Try.f8.body.getD .skip
noncomputable def r8 (id : Nat) : Code := rg b8 id
def o8_0 : List Lite := [⟨some 2, 35, .assign (.const (.slice none 0 0)), none⟩]
theorem rg8_0 (s : St) : codeX P hints hint8 (r8 0) s = (runL P call hint8 o8_0 s).bind fun s' => some (.normal, prune [0] s') := rg_eq (id := 0) (by kernel_rfl) (by kernel_rfl) s
def o8_1 : List Lite := [⟨some 5, 52, .call { callee := .value (.func 18), args := #[], argTypes := #[] }, none⟩,
 ⟨some 6, 3, .call { callee := .builtin .len, args := #[(.tmp 5)], argTypes := #[52] }, none⟩,
 ⟨some 7, 3, .move (.const (.int .i64 (0))), none⟩]
theorem rg8_1 (s : St) : codeX P hints hint8 (r8 1) s = (runL P call hint8 o8_1 s).bind fun s' => some (.normal, prune [0, 5, 6, 7] s') := rg_eq (id := 1) (by kernel_rfl) (by kernel_rfl) s
def o8_2 : List Lite := [⟨some 8, 0, .binOp .lss 3 (.tmp 7) (.tmp 6) 3, none⟩]
theorem rg8_2 (s : St) : codeX P hints hint8 (r8 2) s = (runL P call hint8 o8_2 s).bind fun s' => some (.normal, prune [0, 5, 6, 7, 8] s') := rg_eq (id := 2) (by kernel_rfl) (by kernel_rfl) s
def o8_3 : List Lite := [⟨some 9, 0, .indexAddr 52 (.tmp 5) (.tmp 7), none⟩,
 ⟨some 10, 56, .load 56 (.tmp 9), none⟩,
 ⟨some 4, 0, .alloc 56, none⟩,
 ⟨none, 0, .store 56 (.tmp 4) (.tmp 10), none⟩]
theorem rg8_3 (s : St) : codeX P hints hint8 (r8 3) s = (runL P call hint8 o8_3 s).bind fun s' => some (.normal, prune [0, 4, 5, 6, 7] s') := rg_eq (id := 3) (by kernel_rfl) (by kernel_rfl) s
def o8_4 : List Lite := [⟨some 11, 0, .fieldAddr 56 (.tmp 4) 0, none⟩,
 ⟨some 12, 9, .load 9 (.tmp 11), none⟩,
 ⟨some 13, 9, .move (.tmp 0), none⟩,
 ⟨some 14, 4, .binOp .eql 9 (.tmp 12) (.tmp 13) 9, none⟩]
theorem rg8_4 (s : St) : codeX P hints hint8 (r8 4) s = (runL P call hint8 o8_4 s).bind fun s' => some (.normal, prune [0, 4, 5, 6, 7, 14] s') := rg_eq (id := 4) (by kernel_rfl) (by kernel_rfl) s
def o8_5 : List Lite := [⟨some 15, 0, .fieldAddr 56 (.tmp 4) 3, none⟩,
 ⟨some 16, 35, .load 35 (.tmp 15), none⟩,
 ⟨some 2, 35, .assign (.tmp 16), none⟩]
theorem rg8_5 (s : St) : codeX P hints hint8 (r8 5) s = (runL P call hint8 o8_5 s).bind fun s' => some (.normal, prune [2] s') := rg_eq (id := 5) (by kernel_rfl) (by kernel_rfl) s
def o8_6 : List Lite := [⟨some 17, 3, .binOp .add 3 (.tmp 7) (.const (.int .i64 (1))) 3, none⟩,
 ⟨some 7, 3, .move (.tmp 17), none⟩]
theorem rg8_6 (s : St) : codeX P hints hint8 (r8 6) s = (runL P call hint8 o8_6 s).bind fun s' => some (.normal, prune [0, 5, 6, 7] s') := rg_eq (id := 6) (by kernel_rfl) (by kernel_rfl) s
def o8_7 : List Lite := [⟨some 2, 35, .assign (.const (.slice none 0 0)), none⟩]
theorem rg8_7 (s : St) : codeX P hints hint8 (r8 7) s = (runL P call hint8 o8_7 s).bind fun s' => some (.normal, prune [2] s') := rg_eq (id := 7) (by kernel_rfl) (by kernel_rfl) s
noncomputable def L8_0 : Code := .loop (.seq (r8 2) (.seq (.cond (.tmp 8) .skip (.exit 0)) (.seq (.block 1 (.seq (r8 3) (.seq (r8 4) (.cond (.tmp 14) (.seq (r8 5) .ret) .skip)))) (r8 6))))
theorem L8_0_eq (s : St) : codeX P hints hint8 L8_0 s = (codeX P hints hint8 (.seq (r8 2) (.seq (.cond (.tmp 8) .skip (.exit 0)) (.seq (.block 1 (.seq (r8 3) (.seq (r8 4) (.cond (.tmp 14) (.seq (r8 5) .ret) .skip)))) (r8 6)))) s).bind (thenX P hints hint8 L8_0) := codeX_loop
theorem eq8 (ds : List D) (H : List Ob) (hl : ds.length = 1) : call 8 ds H = (codeX P hints hint8 (.seq (r8 0) (.seq (.seq (r8 1) (.block 0 L8_0)) (.seq (r8 7) .ret))) (enter ds H)).bind (leaveR P false [.tmp 2] H.length) :=
  callX_leave Try.func8 (by kernel_rfl) hl (by kernel_rfl) (by kernel_rfl) rfl
/-! lariat/lariatref49.Model -/
noncomputable def b12 : Code := Try.f12.body.getD .skip
noncomputable def r12 (id : Nat) : Code := rg b12 id
def o12_0 : List Lite := [⟨some 4, 0, .alloc 30, none⟩,
 ⟨some 5, 31, .assign (.const (.int .i64 (0))), none⟩]
theorem rg12_0 (s : St) : codeX P hints hint12 (r12 0) s = (runL P call hint12 o12_0 s).bind fun s' => some (.normal, prune [0, 1, 4] s') := rg_eq (id := 0) (by kernel_rfl) (by kernel_rfl) s
def o12_1 : List Lite := [⟨some 6, 3, .assign (.const (.int .i64 (1))), none⟩]
theorem rg12_1 (s : St) : codeX P hints hint12 (r12 1) s = (runL P call hint12 o12_1 s).bind fun s' => some (.normal, prune [0, 1, 4, 6] s') := rg_eq (id := 1) (by kernel_rfl) (by kernel_rfl) s
def o12_2 : List Lite := [⟨some 10, 9, .move (.tmp 0), none⟩,
 ⟨some 11, 4, .binOp .eql 9 (.tmp 10) (.const (.string ⟨#[109, 117, 116, 101, 120]⟩)) 9, none⟩,
 ⟨some 12, 4, .move (.tmp 11), none⟩,
 ⟨some 13, 9, .move (.tmp 0), some (12, false)⟩,
 ⟨some 14, 4, .binOp .eql 9 (.tmp 13) (.const (.string ⟨#[114, 105, 110, 103]⟩)) 9, some (12, false)⟩,
 ⟨some 15, 4, .pick (.tmp 12) (.const (.bool true)) (.tmp 14), none⟩]
theorem rg12_2 (s : St) : codeX P hints hint12 (r12 2) s = (runL P call hint12 o12_2 s).bind fun s' => some (.normal, prune [0, 1, 4, 6, 15] s') := rg_eq (id := 2) (by kernel_rfl) (by kernel_rfl) s
def o12_3 : List Lite := [⟨some 6, 3, .assign (.const (.int .i64 (2))), none⟩]
theorem rg12_3 (s : St) : codeX P hints hint12 (r12 3) s = (runL P call hint12 o12_3 s).bind fun s' => some (.normal, prune [0, 1, 4, 6] s') := rg_eq (id := 3) (by kernel_rfl) (by kernel_rfl) s
def o12_4 : List Lite := [⟨some 7, 4, .assign (.const (.bool false)), none⟩]
theorem rg12_4 (s : St) : codeX P hints hint12 (r12 4) s = (runL P call hint12 o12_4 s).bind fun s' => some (.normal, prune [0, 1, 4, 6, 7] s') := rg_eq (id := 4) (by kernel_rfl) (by kernel_rfl) s
def o12_5 : List Lite := [⟨some 16, 22, .call { callee := .value (.func 16), args := #[], argTypes := #[] }, none⟩,
 ⟨some 8, 22, .assign (.tmp 16), none⟩]
theorem rg12_5 (s : St) : codeX P hints hint12 (r12 5) s = (runL P call hint12 o12_5 s).bind fun s' => some (.normal, prune [0, 1, 4, 6, 7, 8] s') := rg_eq (id := 5) (by kernel_rfl) (by kernel_rfl) s
def o12_6 : List Lite := [⟨some 9, 3, .assign (.const (.int .i64 (0))), none⟩]
theorem rg12_6 (s : St) : codeX P hints hint12 (r12 6) s = (runL P call hint12 o12_6 s).bind fun s' => some (.normal, prune [0, 1, 4, 6, 7, 8, 9] s') := rg_eq (id := 6) (by kernel_rfl) (by kernel_rfl) s
def o12_7 : List Lite := [⟨some 17, 3, .move (.tmp 9), none⟩,
 ⟨some 18, 22, .move (.tmp 8), none⟩,
 ⟨some 19, 3, .call { callee := .builtin .len, args := #[(.tmp 18)], argTypes := #[22] }, none⟩,
 ⟨some 20, 4, .binOp .lss 3 (.tmp 17) (.tmp 19) 3, none⟩]
theorem rg12_7 (s : St) : codeX P hints hint12 (r12 7) s = (runL P call hint12 o12_7 s).bind fun s' => some (.normal, prune [0, 1, 4, 6, 7, 8, 9, 20] s') := rg_eq (id := 7) (by kernel_rfl) (by kernel_rfl) s
def o12_9 : List Lite := [⟨some 23, 4, .move (.tmp 7), none⟩,
 ⟨some 24, 4, .move (.tmp 23), none⟩,
 ⟨some 25, 22, .move (.tmp 8), some (24, false)⟩,
 ⟨some 26, 3, .move (.tmp 9), some (24, false)⟩,
 ⟨some 27, 0, .indexAddr 22 (.tmp 25) (.tmp 26), some (24, false)⟩,
 ⟨some 28, 9, .load 9 (.tmp 27), some (24, false)⟩,
 ⟨some 29, 9, .move (.tmp 0), some (24, false)⟩,
 ⟨some 30, 4, .binOp .eql 9 (.tmp 28) (.tmp 29) 9, some (24, false)⟩,
 ⟨some 31, 4, .pick (.tmp 24) (.const (.bool true)) (.tmp 30), none⟩,
 ⟨some 7, 4, .assign (.tmp 31), none⟩]
theorem rg12_9 (s : St) : codeX P hints hint12 (r12 9) s = (runL P call hint12 o12_9 s).bind fun s' => some (.normal, prune [0, 1, 4, 6, 7, 8, 9] s') := rg_eq (id := 9) (by kernel_rfl) (by kernel_rfl) s
def o12_8 : List Lite := [⟨some 21, 3, .move (.tmp 9), none⟩,
 ⟨some 22, 3, .binOp .add 3 (.tmp 21) (.const (.int .i64 (1))) 3, none⟩,
 ⟨some 9, 3, .assign (.tmp 22), none⟩]
theorem rg12_8 (s : St) : codeX P hints hint12 (r12 8) s = (runL P call hint12 o12_8 s).bind fun s' => some (.normal, prune [0, 1, 4, 6, 7, 8, 9] s') := rg_eq (id := 8) (by kernel_rfl) (by kernel_rfl) s
def o12_10 : List Lite := [⟨some 32, 4, .move (.tmp 7), none⟩,
 ⟨some 33, 4, .unOp .not 4 (.tmp 32), none⟩]
theorem rg12_10 (s : St) : codeX P hints hint12 (r12 10) s = (runL P call hint12 o12_10 s).bind fun s' => some (.normal, prune [0, 1, 4, 6, 33] s') := rg_eq (id := 10) (by kernel_rfl) (by kernel_rfl) s
def o12_11 : List Lite := [⟨some 34, 30, .build 30 #[], none⟩,
 ⟨none, 0, .store 30 (.tmp 4) (.tmp 34), none⟩,
 ⟨some 5, 31, .assign (.const (.int .i64 (6))), none⟩]
theorem rg12_11 (s : St) : codeX P hints hint12 (r12 11) s = (runL P call hint12 o12_11 s).bind fun s' => some (.normal, prune [4, 5] s') := rg_eq (id := 11) (by kernel_rfl) (by kernel_rfl) s
def o12_12 : List Lite := [⟨some 35, 3, .move (.tmp 1), none⟩,
 ⟨some 36, 3, .move (.tmp 6), none⟩,
 ⟨some 37, 4, .binOp .lss 3 (.tmp 35) (.tmp 36) 3, none⟩,
 ⟨some 38, 4, .move (.tmp 37), none⟩,
 ⟨some 39, 3, .move (.tmp 1), some (38, false)⟩,
 ⟨some 40, 4, .binOp .gtr 3 (.tmp 39) (.const (.int .i64 (3))) 3, some (38, false)⟩,
 ⟨some 41, 4, .pick (.tmp 38) (.const (.bool true)) (.tmp 40), none⟩]
theorem rg12_12 (s : St) : codeX P hints hint12 (r12 12) s = (runL P call hint12 o12_12 s).bind fun s' => some (.normal, prune [0, 1, 4, 41] s') := rg_eq (id := 12) (by kernel_rfl) (by kernel_rfl) s
def o12_13 : List Lite := [⟨some 42, 30, .build 30 #[], none⟩,
 ⟨none, 0, .store 30 (.tmp 4) (.tmp 42), none⟩,
 ⟨some 5, 31, .assign (.const (.int .i64 (10))), none⟩]
theorem rg12_13 (s : St) : codeX P hints hint12 (r12 13) s = (runL P call hint12 o12_13 s).bind fun s' => some (.normal, prune [4, 5] s') := rg_eq (id := 13) (by kernel_rfl) (by kernel_rfl) s
def o12_14 : List Lite := [⟨some 43, 9, .move (.tmp 0), none⟩]
theorem rg12_14 (s : St) : codeX P hints hint12 (r12 14) s = (runL P call hint12 o12_14 s).bind fun s' => some (.normal, prune [1, 4, 43] s') := rg_eq (id := 14) (by kernel_rfl) (by kernel_rfl) s
def o12_15 : List Lite := [⟨some 45, 4, .binOp .eql 9 (.tmp 43) (.const (.string ⟨#[97, 98, 112]⟩)) 9, none⟩,
 ⟨some 44, 4, .assign (.tmp 45), none⟩]
theorem rg12_15 (s : St) : codeX P hints hint12 (r12 15) s = (runL P call hint12 o12_15 s).bind fun s' => some (.normal, prune [1, 4, 43, 44] s') := rg_eq (id := 15) (by kernel_rfl) (by kernel_rfl) s
def o12_16 : List Lite := [⟨some 46, 3, .move (.tmp 1), none⟩,
 ⟨some 47, 30, .call { callee := .value (.func 25), args := #[(.tmp 46)], argTypes := #[3] }, none⟩,
 ⟨none, 0, .store 30 (.tmp 4) (.tmp 47), none⟩,
 ⟨some 5, 31, .assign (.const (.int .i64 (0))), none⟩]
theorem rg12_16 (s : St) : codeX P hints hint12 (r12 16) s = (runL P call hint12 o12_16 s).bind fun s' => some (.normal, prune [4, 5] s') := rg_eq (id := 16) (by kernel_rfl) (by kernel_rfl) s
def o12_17 : List Lite := [⟨some 49, 4, .binOp .eql 9 (.tmp 43) (.const (.string ⟨#[109, 117, 116, 101, 120]⟩)) 9, none⟩,
 ⟨some 48, 4, .assign (.tmp 49), none⟩]
theorem rg12_17 (s : St) : codeX P hints hint12 (r12 17) s = (runL P call hint12 o12_17 s).bind fun s' => some (.normal, prune [1, 4, 43, 48] s') := rg_eq (id := 17) (by kernel_rfl) (by kernel_rfl) s
def o12_18 : List Lite := [⟨some 50, 3, .move (.tmp 1), none⟩,
 ⟨some 51, 30, .call { callee := .value (.func 26), args := #[(.tmp 50)], argTypes := #[3] }, none⟩,
 ⟨none, 0, .store 30 (.tmp 4) (.tmp 51), none⟩,
 ⟨some 5, 31, .assign (.const (.int .i64 (0))), none⟩]
theorem rg12_18 (s : St) : codeX P hints hint12 (r12 18) s = (runL P call hint12 o12_18 s).bind fun s' => some (.normal, prune [4, 5] s') := rg_eq (id := 18) (by kernel_rfl) (by kernel_rfl) s
def o12_19 : List Lite := [⟨some 53, 4, .binOp .eql 9 (.tmp 43) (.const (.string ⟨#[112, 97, 105, 114]⟩)) 9, none⟩,
 ⟨some 52, 4, .assign (.tmp 53), none⟩]
theorem rg12_19 (s : St) : codeX P hints hint12 (r12 19) s = (runL P call hint12 o12_19 s).bind fun s' => some (.normal, prune [1, 4, 43, 52] s') := rg_eq (id := 19) (by kernel_rfl) (by kernel_rfl) s
def o12_20 : List Lite := [⟨some 54, 3, .move (.tmp 1), none⟩,
 ⟨some 55, 30, .call { callee := .value (.func 27), args := #[(.tmp 54)], argTypes := #[3] }, none⟩,
 ⟨none, 0, .store 30 (.tmp 4) (.tmp 55), none⟩,
 ⟨some 5, 31, .assign (.const (.int .i64 (0))), none⟩]
theorem rg12_20 (s : St) : codeX P hints hint12 (r12 20) s = (runL P call hint12 o12_20 s).bind fun s' => some (.normal, prune [4, 5] s') := rg_eq (id := 20) (by kernel_rfl) (by kernel_rfl) s
def o12_21 : List Lite := [⟨some 57, 4, .binOp .eql 9 (.tmp 43) (.const (.string ⟨#[114, 105, 110, 103]⟩)) 9, none⟩,
 ⟨some 56, 4, .assign (.tmp 57), none⟩]
theorem rg12_21 (s : St) : codeX P hints hint12 (r12 21) s = (runL P call hint12 o12_21 s).bind fun s' => some (.normal, prune [1, 4, 56] s') := rg_eq (id := 21) (by kernel_rfl) (by kernel_rfl) s
def o12_22 : List Lite := [⟨some 58, 3, .move (.tmp 1), none⟩,
 ⟨some 59, 30, .call { callee := .value (.func 28), args := #[(.tmp 58)], argTypes := #[3] }, none⟩,
 ⟨none, 0, .store 30 (.tmp 4) (.tmp 59), none⟩,
 ⟨some 5, 31, .assign (.const (.int .i64 (0))), none⟩]
theorem rg12_22 (s : St) : codeX P hints hint12 (r12 22) s = (runL P call hint12 o12_22 s).bind fun s' => some (.normal, prune [4, 5] s') := rg_eq (id := 22) (by kernel_rfl) (by kernel_rfl) s
def o12_23 : List Lite := [⟨some 60, 3, .move (.tmp 1), none⟩,
 ⟨some 61, 30, .call { callee := .value (.func 29), args := #[(.tmp 60)], argTypes := #[3] }, none⟩,
 ⟨none, 0, .store 30 (.tmp 4) (.tmp 61), none⟩,
 ⟨some 5, 31, .assign (.const (.int .i64 (0))), none⟩]
theorem rg12_23 (s : St) : codeX P hints hint12 (r12 23) s = (runL P call hint12 o12_23 s).bind fun s' => some (.normal, prune [4, 5] s') := rg_eq (id := 23) (by kernel_rfl) (by kernel_rfl) s
noncomputable def L12_0 : Code := .loop (.seq (.seq (r12 7) (.cond (.tmp 20) .skip (.exit 0))) (.seq (.block 1 (r12 9)) (r12 8)))
theorem L12_0_eq (s : St) : codeX P hints hint12 L12_0 s = (codeX P hints hint12 (.seq (.seq (r12 7) (.cond (.tmp 20) .skip (.exit 0))) (.seq (.block 1 (r12 9)) (r12 8))) s).bind (thenX P hints hint12 L12_0) := codeX_loop
theorem eq12 (ds : List D) (H : List Ob) (hl : ds.length = 2) : call 12 ds H = (codeX P hints hint12 (.seq (r12 0) (.seq (r12 1) (.seq (.seq (r12 2) (.cond (.tmp 15) (r12 3) .skip)) (.seq (r12 4) (.seq (r12 5) (.seq (.seq (r12 6) (.block 0 L12_0)) (.seq (.seq (r12 10) (.cond (.tmp 33) (.seq (r12 11) .ret) .skip)) (.seq (.seq (r12 12) (.cond (.tmp 41) (.seq (r12 13) .ret) .skip)) (.seq (.seq (r12 14) (.block 2 (.seq (r12 15) (.cond (.tmp 44) (.seq (r12 16) .ret) (.seq (r12 17) (.cond (.tmp 48) (.seq (r12 18) .ret) (.seq (r12 19) (.cond (.tmp 52) (.seq (r12 20) .ret) (.seq (r12 21) (.cond (.tmp 56) (.seq (r12 22) .ret) .skip)))))))))) (.seq (r12 23) .ret)))))))))) (enter ds H)).bind (leaveR P false [.cell 4 30, .tmp 5] H.length) :=
  callX_leave Try.func12 (by kernel_rfl) hl (by kernel_rfl) (by kernel_rfl) rfl
/-! lariat/lariatref49.Formulas -/
noncomputable def b13 : Code := Try.f13.body.getD .skip
noncomputable def r13 (id : Nat) : Code := rg b13 id
def o13_0 : List Lite := [⟨some 2, 35, .assign (.const (.slice none 0 0)), none⟩]
theorem rg13_0 (s : St) : codeX P hints hint13 (r13 0) s = (runL P call hint13 o13_0 s).bind fun s' => some (.normal, prune [0] s') := rg_eq (id := 0) (by kernel_rfl) (by kernel_rfl) s
def o13_1 : List Lite := [⟨some 5, 38, .call { callee := .value (.func 31), args := #[(.const (.int .i64 (0)))], argTypes := #[3] }, none⟩,
 ⟨some 6, 38, .call { callee := .value (.func 30), args := #[(.const (.int .i64 (4))), (.tmp 5)], argTypes := #[3, 38] }, none⟩,
 ⟨some 3, 38, .assign (.tmp 6), none⟩]
theorem rg13_1 (s : St) : codeX P hints hint13 (r13 1) s = (runL P call hint13 o13_1 s).bind fun s' => some (.normal, prune [0, 3] s') := rg_eq (id := 1) (by kernel_rfl) (by kernel_rfl) s
def o13_2 : List Lite := [⟨some 7, 38, .call { callee := .value (.func 31), args := #[(.const (.int .i64 (1)))], argTypes := #[3] }, none⟩,
 ⟨some 8, 38, .call { callee := .value (.func 30), args := #[(.const (.int .i64 (4))), (.tmp 7)], argTypes := #[3, 38] }, none⟩,
 ⟨some 4, 38, .assign (.tmp 8), none⟩]
theorem rg13_2 (s : St) : codeX P hints hint13 (r13 2) s = (runL P call hint13 o13_2 s).bind fun s' => some (.normal, prune [0, 3, 4] s') := rg_eq (id := 2) (by kernel_rfl) (by kernel_rfl) s
def o13_3 : List Lite := [⟨some 9, 9, .move (.tmp 0), none⟩]
theorem rg13_3 (s : St) : codeX P hints hint13 (r13 3) s = (runL P call hint13 o13_3 s).bind fun s' => some (.normal, prune [3, 4, 9] s') := rg_eq (id := 3) (by kernel_rfl) (by kernel_rfl) s
def o13_4 : List Lite := [⟨some 11, 4, .binOp .eql 9 (.tmp 9) (.const (.string ⟨#[97, 98, 112]⟩)) 9, none⟩,
 ⟨some 10, 4, .assign (.tmp 11), none⟩]
theorem rg13_4 (s : St) : codeX P hints hint13 (r13 4) s = (runL P call hint13 o13_4 s).bind fun s' => some (.normal, prune [3, 4, 9, 10] s') := rg_eq (id := 4) (by kernel_rfl) (by kernel_rfl) s
def o13_5 : List Lite := [⟨some 12, 38, .call { callee := .value (.func 32), args := #[(.const (.int .i64 (0)))], argTypes := #[3] }, none⟩,
 ⟨some 13, 38, .call { callee := .value (.func 33), args := #[(.const (.int .i64 (1))), (.const (.int .i64 (0)))], argTypes := #[3, 3] }, none⟩,
 ⟨some 14, 38, .move (.tmp 3), none⟩,
 ⟨some 15, 38, .call { callee := .value (.func 30), args := #[(.const (.int .i64 (12))), (.tmp 14)], argTypes := #[3, 38] }, none⟩,
 ⟨some 16, 35, .buildSlice 35 3 #[(0, (.tmp 12)), (1, (.tmp 13)), (2, (.tmp 15))], none⟩,
 ⟨some 2, 35, .assign (.tmp 16), none⟩]
theorem rg13_5 (s : St) : codeX P hints hint13 (r13 5) s = (runL P call hint13 o13_5 s).bind fun s' => some (.normal, prune [2] s') := rg_eq (id := 5) (by kernel_rfl) (by kernel_rfl) s
def o13_6 : List Lite := [⟨some 18, 4, .binOp .eql 9 (.tmp 9) (.const (.string ⟨#[109, 117, 116, 101, 120]⟩)) 9, none⟩,
 ⟨some 17, 4, .assign (.tmp 18), none⟩]
theorem rg13_6 (s : St) : codeX P hints hint13 (r13 6) s = (runL P call hint13 o13_6 s).bind fun s' => some (.normal, prune [4, 9, 17] s') := rg_eq (id := 6) (by kernel_rfl) (by kernel_rfl) s
def o13_7 : List Lite := [⟨some 19, 38, .move (.tmp 4), none⟩,
 ⟨some 20, 38, .call { callee := .value (.func 30), args := #[(.const (.int .i64 (12))), (.tmp 19)], argTypes := #[3, 38] }, none⟩,
 ⟨some 21, 38, .call { callee := .value (.func 32), args := #[(.const (.int .i64 (0)))], argTypes := #[3] }, none⟩,
 ⟨some 22, 38, .call { callee := .value (.func 31), args := #[(.const (.int .i64 (0)))], argTypes := #[3] }, none⟩,
 ⟨some 23, 38, .call { callee := .value (.func 30), args := #[(.const (.int .i64 (11))), (.tmp 22)], argTypes := #[3, 38] }, none⟩,
 ⟨some 24, 35, .buildSlice 35 3 #[(0, (.tmp 20)), (1, (.tmp 21)), (2, (.tmp 23))], none⟩,
 ⟨some 2, 35, .assign (.tmp 24), none⟩]
theorem rg13_7 (s : St) : codeX P hints hint13 (r13 7) s = (runL P call hint13 o13_7 s).bind fun s' => some (.normal, prune [2] s') := rg_eq (id := 7) (by kernel_rfl) (by kernel_rfl) s
def o13_8 : List Lite := [⟨some 26, 4, .binOp .eql 9 (.tmp 9) (.const (.string ⟨#[112, 97, 105, 114]⟩)) 9, none⟩,
 ⟨some 25, 4, .assign (.tmp 26), none⟩]
theorem rg13_8 (s : St) : codeX P hints hint13 (r13 8) s = (runL P call hint13 o13_8 s).bind fun s' => some (.normal, prune [4, 9, 25] s') := rg_eq (id := 8) (by kernel_rfl) (by kernel_rfl) s
def o13_9 : List Lite := [⟨some 27, 38, .call { callee := .value (.func 32), args := #[(.const (.int .i64 (1)))], argTypes := #[3] }, none⟩,
 ⟨some 28, 38, .call { callee := .value (.func 33), args := #[(.const (.int .i64 (0))), (.const (.int .i64 (1)))], argTypes := #[3, 3] }, none⟩,
 ⟨some 29, 38, .move (.tmp 4), none⟩,
 ⟨some 30, 38, .call { callee := .value (.func 30), args := #[(.const (.int .i64 (12))), (.tmp 29)], argTypes := #[3, 38] }, none⟩,
 ⟨some 31, 38, .call { callee := .value (.func 30), args := #[(.const (.int .i64 (11))), (.tmp 30)], argTypes := #[3, 38] }, none⟩,
 ⟨some 32, 35, .buildSlice 35 3 #[(0, (.tmp 27)), (1, (.tmp 28)), (2, (.tmp 31))], none⟩,
 ⟨some 2, 35, .assign (.tmp 32), none⟩]
theorem rg13_9 (s : St) : codeX P hints hint13 (r13 9) s = (runL P call hint13 o13_9 s).bind fun s' => some (.normal, prune [2] s') := rg_eq (id := 9) (by kernel_rfl) (by kernel_rfl) s
def o13_10 : List Lite := [⟨some 34, 4, .binOp .eql 9 (.tmp 9) (.const (.string ⟨#[114, 105, 110, 103]⟩)) 9, none⟩,
 ⟨some 33, 4, .assign (.tmp 34), none⟩]
theorem rg13_10 (s : St) : codeX P hints hint13 (r13 10) s = (runL P call hint13 o13_10 s).bind fun s' => some (.normal, prune [4, 9, 33] s') := rg_eq (id := 10) (by kernel_rfl) (by kernel_rfl) s
def o13_11 : List Lite := [⟨some 35, 38, .call { callee := .value (.func 32), args := #[(.const (.int .i64 (0)))], argTypes := #[3] }, none⟩,
 ⟨some 36, 38, .call { callee := .value (.func 33), args := #[(.const (.int .i64 (0))), (.const (.int .i64 (1)))], argTypes := #[3, 3] }, none⟩,
 ⟨some 37, 38, .call { callee := .value (.func 31), args := #[(.const (.int .i64 (1)))], argTypes := #[3] }, none⟩,
 ⟨some 38, 38, .call { callee := .value (.func 30), args := #[(.const (.int .i64 (12))), (.tmp 37)], argTypes := #[3, 38] }, none⟩,
 ⟨some 39, 35, .buildSlice 35 3 #[(0, (.tmp 35)), (1, (.tmp 36)), (2, (.tmp 38))], none⟩,
 ⟨some 2, 35, .assign (.tmp 39), none⟩]
theorem rg13_11 (s : St) : codeX P hints hint13 (r13 11) s = (runL P call hint13 o13_11 s).bind fun s' => some (.normal, prune [2] s') := rg_eq (id := 11) (by kernel_rfl) (by kernel_rfl) s
def o13_12 : List Lite := [⟨some 41, 4, .binOp .eql 9 (.tmp 9) (.const (.string ⟨#[116, 111, 115, 115]⟩)) 9, none⟩,
 ⟨some 40, 4, .assign (.tmp 41), none⟩]
theorem rg13_12 (s : St) : codeX P hints hint13 (r13 12) s = (runL P call hint13 o13_12 s).bind fun s' => some (.normal, prune [4, 40] s') := rg_eq (id := 12) (by kernel_rfl) (by kernel_rfl) s
def o13_13 : List Lite := [⟨some 42, 38, .call { callee := .value (.func 32), args := #[(.const (.int .i64 (0)))], argTypes := #[3] }, none⟩,
 ⟨some 43, 38, .call { callee := .value (.func 31), args := #[(.const (.int .i64 (1)))], argTypes := #[3] }, none⟩,
 ⟨some 44, 38, .call { callee := .value (.func 30), args := #[(.const (.int .i64 (11))), (.tmp 43)], argTypes := #[3, 38] }, none⟩,
 ⟨some 45, 38, .move (.tmp 4), none⟩,
 ⟨some 46, 38, .call { callee := .value (.func 30), args := #[(.const (.int .i64 (12))), (.tmp 45)], argTypes := #[3, 38] }, none⟩,
 ⟨some 47, 35, .buildSlice 35 3 #[(0, (.tmp 42)), (1, (.tmp 44)), (2, (.tmp 46))], none⟩,
 ⟨some 2, 35, .assign (.tmp 47), none⟩]
theorem rg13_13 (s : St) : codeX P hints hint13 (r13 13) s = (runL P call hint13 o13_13 s).bind fun s' => some (.normal, prune [2] s') := rg_eq (id := 13) (by kernel_rfl) (by kernel_rfl) s
def o13_14 : List Lite := [⟨some 2, 35, .assign (.const (.slice none 0 0)), none⟩]
theorem rg13_14 (s : St) : codeX P hints hint13 (r13 14) s = (runL P call hint13 o13_14 s).bind fun s' => some (.normal, prune [2] s') := rg_eq (id := 14) (by kernel_rfl) (by kernel_rfl) s
theorem eq13 (ds : List D) (H : List Ob) (hl : ds.length = 1) : call 13 ds H = (codeX P hints hint13 (.seq (r13 0) (.seq (r13 1) (.seq (r13 2) (.seq (.seq (r13 3) (.block 0 (.seq (r13 4) (.cond (.tmp 10) (.seq (r13 5) .ret) (.seq (r13 6) (.cond (.tmp 17) (.seq (r13 7) .ret) (.seq (r13 8) (.cond (.tmp 25) (.seq (r13 9) .ret) (.seq (r13 10) (.cond (.tmp 33) (.seq (r13 11) .ret) (.seq (r13 12) (.cond (.tmp 40) (.seq (r13 13) .ret) .skip)))))))))))) (.seq (r13 14) .ret))))) (enter ds H)).bind (leaveR P false [.tmp 2] H.length) :=
  callX_leave Try.func13 (by kernel_rfl) hl (by kernel_rfl) (by kernel_rfl) rfl
end Go.Lib
/- What code computes, as a function: loops over written-out states, lists of data, pulled out of the machine. -/
namespace Go.Am
open Go
set_option linter.unusedSimpArgs false
set_option linter.unusedVariables false

/-! ### loops -/
section
variable {α β γ δ : Type}
def iterN (f : α → Option (α ⊕ β)) : Nat → α → Option β
  | 0, _ => none
  | n + 1, x => (f x).bind fun r => match r with | .inl y => iterN f n y | .inr z => some z
theorem iterN_le {f : α → Option (α ⊕ β)} : ∀ (n : Nat) {x : α} {r : β}, iterN f n x = some r → iterN f (n + 1) x = some r
  | 0, x, r, e => by cases e
  | n + 1, x, r, e => by
    simp only [iterN, Option.bind_eq_some_iff] at e
    obtain ⟨y, e1, e2⟩ := e
    rw [iterN, e1, Option.bind_some]
    cases y with
    | inl y => exact iterN_le n e2
    | inr z => exact e2
theorem iterN_mono {f : α → Option (α ⊕ β)} {n m : Nat} (h : n ≤ m) {x : α} {r : β} (e : iterN f n x = some r) : iterN f m x = some r := by
  induction h with
  | refl => exact e
  | step _ ih => exact iterN_le _ ih
/-- again and again, until it is done -/
noncomputable def iter (f : α → Option (α ⊕ β)) (x : α) : Option β := lim fun n => iterN f n x
theorem iter_iff {f : α → Option (α ⊕ β)} {x : α} {r : β} : iter f x = some r ↔ ∃ n, iterN f n x = some r :=
  lim_iff fun n m r h e => iterN_mono h e
theorem iter_eq (f : α → Option (α ⊕ β)) (x : α) : iter f x = (f x).bind fun r => match r with | .inl y => iter f y | .inr z => some z := by
  refine ext_some fun r => ?_
  rw [iter_iff, Option.bind_eq_some_iff]
  constructor
  · rintro ⟨n, e⟩
    cases n with
    | zero => cases e
    | succ n =>
      simp only [iterN, Option.bind_eq_some_iff] at e
      obtain ⟨y, e1, e2⟩ := e
      refine ⟨y, e1, ?_⟩
      cases y with
      | inl y => exact iter_iff.2 ⟨n, e2⟩
      | inr z => exact e2
  · rintro ⟨y, e1, e2⟩
    cases y with
    | inl y =>
      obtain ⟨n, e3⟩ := iter_iff.1 e2
      exact ⟨n + 1, by rw [iterN, e1, Option.bind_some]; exact e3⟩
    | inr z => exact ⟨1, by rw [iterN, e1, Option.bind_some]; exact e2⟩
theorem iter_inl {f : α → Option (α ⊕ β)} {x y : α} (h : f x = some (.inl y)) : iter f x = iter f y := by rw [iter_eq, h]; rfl
theorem iter_inr {f : α → Option (α ⊕ β)} {x : α} {z : β} (h : f x = some (.inr z)) : iter f x = some z := by rw [iter_eq, h]; rfl
end
section
variable {P : Program} {hints : FuncId → Hint} {h : Hint} {X Y : Type}
/-- how a step ends: at the loop's head again, or behind the loop -/
def stepK (S : X → St) (K : Y → Ex × St) : X ⊕ Y → Ex × St
  | .inl x => (.normal, S x)
  | .inr y => K y
theorem loop_iter {a : Code} {S : X → St} {K : Y → Ex × St} {f : X → Option (X ⊕ Y)} (hf : ∀ x, codeX P hints h a (S x) = (f x).map (stepK S K)) (hK : ∀ y, (K y).1 ≠ .normal) (x : X) :
    codeX P hints h (.loop a) (S x) = (iter f x).map K := by
  refine ext_some fun r => ?_
  rw [codeX_iff, Option.map_eq_some_iff]
  have one : ∀ (n : Nat) (s : St) (e : Ex × St), codeN P (callN P hints n) h n a s = some e → codeX P hints h a s = some e := fun n s e he => codeX_iff.2 ⟨n, he⟩
  constructor
  · rintro ⟨n, e⟩
    simp only [codeN] at e
    have : ∀ (m : Nat) (x : X), loopN (codeN P (callN P hints n) h n a) m (S x) = some r → ∃ y, iter f x = some y ∧ K y = r := by
      intro m
      induction m with
      | zero => intro x e; cases e
      | succ m ih =>
        intro x e
        simp only [loopN, Option.bind_eq_some_iff] at e
        obtain ⟨⟨ex, s'⟩, e1, e2⟩ := e
        have e3 := one _ _ _ e1
        rw [hf, Option.map_eq_some_iff] at e3
        obtain ⟨z, e4, e5⟩ := e3
        cases z with
        | inl y =>
          simp only [stepK, Prod.mk.injEq] at e5
          obtain ⟨rfl, rfl⟩ := e5
          rw [iter_inl e4]
          exact ih y e2
        | inr y =>
          simp only [stepK] at e5
          refine ⟨y, iter_inr e4, ?_⟩
          have := hK y
          rw [e5] at this ⊢
          cases ex with
          | normal => exact absurd rfl this
          | exit i => simpa using e2
          | ret => simpa using e2
    exact this n x e
  · rintro ⟨y, e, rfl⟩
    obtain ⟨m, e⟩ := iter_iff.1 e
    have : ∀ (m : Nat) (x : X), iterN f m x = some y → codeX P hints h (.loop a) (S x) = some (K y) := by
      intro m
      induction m with
      | zero => intro x e; cases e
      | succ m ih =>
        intro x e
        simp only [iterN, Option.bind_eq_some_iff] at e
        obtain ⟨z, e1, e2⟩ := e
        rw [codeX_loop, hf, e1, Option.map_some, Option.bind_some]
        cases z with
        | inl z => exact ih z e2
        | inr z =>
          simp only [Option.some.injEq] at e2
          subst e2
          have := hK z
          show thenX P hints h (.loop a) (K z) = _
          cases hz : K z with
          | mk ex s =>
            rw [hz] at this
            cases ex with
            | normal => exact absurd rfl this
            | exit i => rfl
            | ret => rfl
    exact codeX_iff.1 (this m x e)
end
def loopBody : Code → Code | .loop c => c | c => c
section
variable {P : Program} {hints : FuncId → Hint} {h : Hint} {X Y : Type}
theorem loop_iterK {a : Code} {K : X ⊕ Y → Ex × St} {f : X → Option (X ⊕ Y)} (hf : ∀ x, codeX P hints h a (K (.inl x)).2 = (f x).map K) (hn : ∀ x, (K (.inl x)).1 = .normal) (hK : ∀ y, (K (.inr y)).1 ≠ .normal) (x : X) :
    codeX P hints h (.loop a) (K (.inl x)).2 = (iter f x).map fun y => K (.inr y) := by
  refine loop_iter (S := fun x => (K (.inl x)).2) (K := fun y => K (.inr y)) (fun x => ?_) hK x
  rw [hf]
  congr 1
  funext z
  cases z with
  | inl z => exact Prod.ext (hn z) rfl
  | inr z => rfl
end
/-! ### pushing in, pulling out -/
section
variable {α β γ : Type}
theorem bind_ite {c : Prop} [Decidable c] {a b : Option α} {g : α → Option γ} : (if c then a else b).bind g = if c then a.bind g else b.bind g := by split <;> rfl
theorem bind_map {o : Option α} {f : α → β} {g : β → Option γ} : (o.map f).bind g = o.bind fun x => g (f x) := by cases o <;> rfl
/-- on, by one of two ways -/
def case2 (o : Option (α ⊕ β)) (f : α → Option γ) (g : β → Option γ) : Option γ := o.bind fun r => match r with | .inl a => f a | .inr b => g b
theorem case2_bind {δ : Type} {o : Option (α ⊕ β)} {f : α → Option γ} {g : β → Option γ} {k : γ → Option δ} : (case2 o f g).bind k = case2 o (fun a => (f a).bind k) (fun b => (g b).bind k) := by
  cases o with
  | none => rfl
  | some r => cases r <;> rfl
theorem bind_sum {o : Option (α ⊕ β)} {f : α → γ} {g : β → γ} {δ : Type} {k : γ → Option δ} : (o.map (Sum.elim f g)).bind k = case2 o (fun a => k (f a)) (fun b => k (g b)) := by
  cases o with
  | none => rfl
  | some r => cases r <;> rfl
theorem map_1 {o : Option α} {g : α → β} : o.map g = o.bind fun y => some (g y) := by cases o <;> rfl
theorem map_2 {γ : Type} {o : Option (α ⊕ β)} {g : α ⊕ β → γ} : o.map g = case2 o (fun y => some (g (.inl y))) (fun y => some (g (.inr y))) := by
  cases o with
  | none => rfl
  | some r => cases r <;> rfl
theorem map_3 {γ δ : Type} {o : Option (α ⊕ (β ⊕ γ))} {g : α ⊕ (β ⊕ γ) → δ} : o.map g = case2 o (fun y => some (g (.inl y))) (fun r => case2 (some r) (fun y => some (g (.inr (.inl y)))) (fun y => some (g (.inr (.inr y))))) := by
  cases o with
  | none => rfl
  | some r => rcases r with _ | _ | _ <;> rfl
theorem map_4 {γ δ ε : Type} {o : Option (α ⊕ (β ⊕ (γ ⊕ δ)))} {g : α ⊕ (β ⊕ (γ ⊕ δ)) → ε} : o.map g = case2 o (fun y => some (g (.inl y))) (fun r => case2 (some r) (fun y => some (g (.inr (.inl y)))) (fun r => case2 (some r) (fun y => some (g (.inr (.inr (.inl y))))) (fun y => some (g (.inr (.inr (.inr y))))))) := by
  cases o with
  | none => rfl
  | some r => rcases r with _ | _ | _ | _ <;> rfl
theorem pull_ite {K : α → β} {c : Prop} [Decidable c] {a b : Option α} : (if c then a.map K else b.map K) = (if c then a else b).map K := by split <;> rfl
theorem pull_iteL {K : α → β} {c : Prop} [Decidable c] {a : Option α} : (if c then a.map K else none) = (if c then a else none).map K := by split <;> rfl
theorem pull_iteR {K : α → β} {c : Prop} [Decidable c] {a : Option α} : (if c then none else a.map K) = (if c then none else a).map K := by split <;> rfl
theorem pull_bind {K : α → β} {o : Option γ} {g : γ → Option α} : (o.bind fun x => (g x).map K) = (o.bind g).map K := by cases o <;> rfl
theorem pull_case {δ : Type} {K : α → β} {o : Option (γ ⊕ δ)} {f : γ → Option α} {g : δ → Option α} : case2 o (fun x => (f x).map K) (fun y => (g y).map K) = (case2 o f g).map K := by
  cases o with
  | none => rfl
  | some r => cases r <;> rfl
theorem pull_caseL {δ : Type} {K : α → β} {o : Option (γ ⊕ δ)} {f : γ → Option α} : case2 o (fun x => (f x).map K) (fun _ => none) = (case2 o f fun _ => none).map K := by
  cases o with
  | none => rfl
  | some r => cases r <;> rfl
theorem pull_caseR {δ : Type} {K : α → β} {o : Option (γ ⊕ δ)} {g : δ → Option α} : case2 o (fun _ => none) (fun y => (g y).map K) = (case2 o (fun _ => none) g).map K := by
  cases o with
  | none => rfl
  | some r => cases r <;> rfl
theorem kk (K : α → β) (x : α) : some (K x) = (some x).map K := rfl
theorem kn (K : α → β) (x : α) (z : β) (h : K x = z) : some z = (some x).map K := by rw [← h]; rfl
theorem pulls : (∀ {α β : Type} {K : α → β} {c : Prop} [Decidable c] {a b : Option α}, (if c then a.map K else b.map K) = (if c then a else b).map K) ∧
    (∀ {α β : Type} {K : α → β} {c : Prop} [Decidable c] {a : Option α}, (if c then a.map K else none) = (if c then a else none).map K) ∧
    (∀ {α β : Type} {K : α → β} {c : Prop} [Decidable c] {a : Option α}, (if c then none else a.map K) = (if c then none else a).map K) ∧
    (∀ {α β γ : Type} {K : α → β} {o : Option γ} {g : γ → Option α}, (o.bind fun x => (g x).map K) = (o.bind g).map K) ∧
    (∀ {α β γ δ : Type} {K : α → β} {o : Option (γ ⊕ δ)} {f : γ → Option α} {g : δ → Option α}, case2 o (fun x => (f x).map K) (fun y => (g y).map K) = (case2 o f g).map K) ∧
    (∀ {α β γ δ : Type} {K : α → β} {o : Option (γ ⊕ δ)} {f : γ → Option α}, case2 o (fun x => (f x).map K) (fun _ => none) = (case2 o f fun _ => none).map K) ∧
    (∀ {α β γ δ : Type} {K : α → β} {o : Option (γ ⊕ δ)} {g : δ → Option α}, case2 o (fun _ => none) (fun y => (g y).map K) = (case2 o (fun _ => none) g).map K) :=
  ⟨pull_ite, pull_iteL, pull_iteR, pull_bind, pull_case, pull_caseL, pull_caseR⟩
theorem len_snoc {l : List α} {x : α} : (l ++ [x]).length = l.length + 1 := by simp
theorem match_opt {o : Option α} {f : α → β} {b : β} : (match o with | some x => f x | none => b) = o.elim b f := by cases o <;> rfl
end

/-! ### guards that want false -/
section
variable {P : Program} {call : CallF} {h : Hint} {d : Option Nat} {ty : TypeId} {op : Op} {r : List Lite} {env : List (Nat × SV)} {ct : List ((Nat × Nat) × T)} {H : List Ob} {b : Bool}
@[go_sem high] theorem guardL_boolF : guardL P call h d ty op false r ⟨env, ct, H⟩ (.d (.bool b)) = if b = true then runL P call h r (St.fin ⟨env, ct, H⟩ d (.tup []) ⟨ct, H, []⟩) else (stepE P call h (d.getD 0) ty op (St.val ⟨env, ct, H⟩) ⟨ct, H, []⟩).bind fun p => nextL P call h d r ⟨env, ct, H⟩ p.1 p.2 := by
  cases b <;> simp [guardL_bool]
@[go_sem high] theorem guardC_boolF {o : LF} {r : List LF} {c : Cf} {acc : List Fp} : guardC P call h o false r c acc (.d (.bool b)) = if b = true then nextC P call h o r c acc false (.tup []) c.1.wk else (stepE P call h (o.d.getD 0) o.ty o.op c.1.val c.1.wk).bind fun p => nextC P call h o r c acc true p.1 p.2 := by
  cases b <;> simp [guardC_bool]
end
/-! ### encodings -/
@[reducible] def eI (n : Int) : D := .int .i64 n
@[reducible] def eB (b : Bool) : D := .bool b
@[reducible] def eS (s : List UInt8) : D := .str s
@[reducible] def eK (k : IntKind) (n : Int) : D := .int k n
def eL {α : Type} (b : Bool) (f : α → D) (l : List α) : D := .sl b (l.map f)
/-- a list of data as a tree's elements -/
def tl {α : Type} (f : α → D) (l : List α) : List T := l.map fun x => .d (f x)
section
variable {α : Type} {f : α → D} {l : List α} {x : α} {b : Bool}
attribute [go_sem] D.imm D.imms D.lend D.lends
theorem imms_map (h : ∀ x, (f x).imm = true) : D.imms (l.map f) = true := by induction l <;> simp_all [D.imms]
theorem lends_to {g : α → D} (h : ∀ x, (f x).lend = g x) : D.lends (l.map f) = l.map g := by induction l <;> simp_all [D.lends]
theorem lends_same (h : ∀ x, (f x).lend = f x) : D.lends (l.map f) = l.map f := lends_to h
theorem lows_map {n : Nat} (h : ∀ x, (f x).low n = true) : D.lows n (l.map f) = true := by induction l <;> simp_all [D.lows]
@[go_sem] theorem tl_nil : tl f [] = [] := rfl
@[go_sem] theorem tl_len : (tl f l).length = l.length := by simp [tl]
@[go_sem] theorem tl_get {i : Nat} : (tl f l)[i]? = (l[i]?).map fun x => .d (f x) := by simp [tl]
theorem tl_snoc : tl f l ++ [.d (f x)] = tl f (l ++ [x]) := by simp [tl]
@[go_sem] theorem tl_app {m : List α} : tl f l ++ tl f m = tl f (l ++ m) := by simp [tl]
theorem tl_set {i : Nat} : (tl f l).set i (.d (f x)) = tl f (l.set i x) := by simp [tl, List.map_set]
@[go_sem] theorem tl_take {n : Nat} : (tl f l).take n = tl f (l.take n) := by simp [tl, List.map_take]
@[go_sem] theorem tl_drop {n : Nat} : (tl f l).drop n = tl f (l.drop n) := by simp [tl, List.map_drop]
@[go_sem] theorem tl_map : (l.map fun x => T.d (f x)) = tl f l := rfl
@[go_sem] theorem tl_map' : ((l.map f).map T.d) = tl f l := by simp [tl]
theorem uniform_tl {n : Nat} (h : ∀ x, (f x).nc = n) : uniform n (tl f l) = true := by
  induction l with
  | nil => rfl
  | cons a r ih => simp only [tl, List.map_cons, uniform_cons] at ih ⊢; rw [ih]; simp [T.nc, h]
theorem frzs_tl (h : ∀ x, (f x).norm = f x) : T.frzs b (tl f l) = some (l.map f) := by
  induction l with
  | nil => rfl
  | cons a r ih => simp only [tl, List.map_cons, T.frzs, T.frz, h] at ih ⊢; rw [ih]; rfl
theorem lowT_tl {n : Nat} (h : ∀ x, (f x).low n = true) : T.lows n (tl f l) = true := by
  induction l with
  | nil => rfl
  | cons a r ih => simp only [tl, List.map_cons, T.lows, T.low, h] at ih ⊢; simpa using ih
@[go_sem] theorem take_len_map {β : Type} {g : α → β} : (l.map g).take l.length = l.map g := List.take_of_length_le (by simp)
@[go_sem] theorem take_snoc : (l ++ [x]).take (l.length + 1) = l ++ [x] := List.take_of_length_le (by simp)
@[go_sem] theorem take_snoc_map {β : Type} {g : α → β} : ((l ++ [x]).map g).take (l.length + 1) = (l ++ [x]).map g := List.take_of_length_le (by simp)
@[go_sem] theorem take_len : l.take l.length = l := List.take_length
@[go_sem] theorem tlI_snoc {l : List Int} {k : IntKind} {n : Int} : tl (eK k) l ++ [.d (.int k n)] = tl (eK k) (l ++ [n]) := by simp [tl]
@[go_sem high] theorem tlI64_snoc {l : List Int} {n : Int} : tl eI l ++ [.d (.int .i64 n)] = tl eI (l ++ [n]) := by simp [tl]
@[go_sem] theorem tlB_snoc {l : List Bool} {n : Bool} : tl eB l ++ [.d (.bool n)] = tl eB (l ++ [n]) := by simp [tl]
@[go_sem] theorem tlS_snoc {l : List (List UInt8)} {n : List UInt8} : tl eS l ++ [.d (.str n)] = tl eS (l ++ [n]) := by simp [tl]
@[go_sem] theorem tlL_snoc {c : Bool} {g : α → D} {l : List (List α)} {n : List α} : tl (eL c g) l ++ [.d (.sl c (n.map g))] = tl (eL c g) (l ++ [n]) := by simp [tl, eL]
@[go_sem] theorem tlI_set {l : List Int} {k : IntKind} {n : Int} {i : Nat} : (tl (eK k) l).set i (.d (.int k n)) = tl (eK k) (l.set i n) := by simp [tl, List.map_set]
@[go_sem high] theorem tlI64_set {l : List Int} {n : Int} {i : Nat} : (tl eI l).set i (.d (.int .i64 n)) = tl eI (l.set i n) := by simp [tl, List.map_set]
@[go_sem] theorem tlB_set {l : List Bool} {n : Bool} {i : Nat} : (tl eB l).set i (.d (.bool n)) = tl eB (l.set i n) := by simp [tl, List.map_set]
/-- rows that are trees of their own -/
def tlo (f : α → D) (l : List (List α)) : List T := l.map fun r => .own (tl f r)
section
variable {l : List (List α)} {r : List α}
theorem tlo_rep {n : Nat} : tlo f (List.replicate n []) = List.replicate n (.own []) := by simp [tlo, tl]
@[go_sem] theorem tlo_len : (tlo f l).length = l.length := by simp [tlo]
@[go_sem] theorem tlo_get {i : Nat} : (tlo f l)[i]? = (l[i]?).map fun r => .own (tl f r) := by simp [tlo]
@[go_sem] theorem tlo_snoc : tlo f l ++ [.own (tl f r)] = tlo f (l ++ [r]) := by simp [tlo]
@[go_sem] theorem tlo_set {i : Nat} : (tlo f l).set i (.own (tl f r)) = tlo f (l.set i r) := by simp [tlo, List.map_set]
@[go_sem] theorem tlo_take {n : Nat} : (tlo f l).take n = tlo f (l.take n) := by simp [tlo, List.map_take]
@[go_sem] theorem uniform_tlo : uniform 1 (tlo f l) = true := by
  induction l with
  | nil => rfl
  | cons a r ih => simp only [tlo, List.map_cons, uniform_cons] at ih ⊢; rw [ih]; rfl
theorem frzs_tlo {g : List α → D} (h : ∀ x, (f x).norm = f x) (hg : ∀ r, g r = .sl b (r.map f)) : T.frzs b (tlo f l) = some (l.map g) := by
  induction l with
  | nil => rfl
  | cons a r ih => simp only [tlo, List.map_cons, T.frzs, T.frz, frzs_tl h, Option.map_some, Option.bind_some, ← hg] at ih ⊢; rw [ih]; rfl
theorem lowT_tlo {n : Nat} (h : ∀ x, (f x).low n = true) : T.lows n (tlo f l) = true := by
  induction l with
  | nil => rfl
  | cons a r ih => simp only [tlo, List.map_cons, T.lows, T.low, lowT_tl h] at ih ⊢; simpa using ih
end
@[go_sem] theorem rep_int {k : IntKind} {n : Nat} {z : Int} : List.replicate n (T.d (.int k z)) = tl (eK k) (List.replicate n z) := by simp [tl]
@[go_sem high] theorem rep_i64 {n : Nat} {z : Int} : List.replicate n (T.d (.int .i64 z)) = tl eI (List.replicate n z) := by simp [tl]
@[go_sem] theorem rep_bool {n : Nat} {z : Bool} : List.replicate n (T.d (.bool z)) = tl eB (List.replicate n z) := by simp [tl]
@[go_sem] theorem rep_str {n : Nat} {z : List UInt8} : List.replicate n (T.d (.str z)) = tl eS (List.replicate n z) := by simp [tl]
@[go_sem] theorem cellsSV_nil {r : Root} {p : Path} {i o : Nat} : cellsSV r p i o [] = some [] := rfl
@[go_sem] theorem cellsSV_cons {r : Root} {p : Path} {i o : Nat} {t : T} {l : List T} : cellsSV r p i o (t :: l) = (cellSV r p i o t).bind fun x => (cellsSV r p i (o + 1) l).bind fun xs => some (x :: xs) := by
  simp only [cellsSV, Option.map_eq_bind]; rfl
/-- the shared objects as a callee sees them that changes none -/
def lockA (H : List Ob) : List Ob := lockAll H
@[go_sem high] theorem callE_lock {call : CallF} {h : Hint} {dst : Nat} {f : FuncId} {ds : List D} {b : Lend} {ct : List ((Nat × Nat) × T)} {H : List Ob} {tr : List Tr} : callE call h dst f ds b ⟨ct, H, tr⟩ = if h.keep.contains dst = true then
      (call f ds (lockA H)).bind fun p => if p.2.length = H.length ∧ (b.sn = true → T.imms p.1 = true) then resE dst p.1 ⟨ct, H, tr⟩ else none
    else (call f ds (lockSome b.lk H)).bind fun p =>
      if (b.sn = true → T.imms p.1 = true ∧ obsImm p.2 = true) ∧ sameObs (lockSome b.lk H) p.2 = true then resE dst p.1 ⟨ct, unlock H b.lk p.2, tr ++ [.killO]⟩ else none := callE_mk
@[go_sem] theorem lockA_nil_iff : (lockA [] = []) ↔ True := ⟨fun _ => trivial, fun _ => rfl⟩
@[go_sem] theorem lockA_len {H : List Ob} : (lockA H).length = H.length := lockAll_len
@[go_sem] theorem lockA_low {H : List Ob} {n : Nat} {x : Ob} (h : x ∈ lockA H) : Ob.low n x = true := by
  simp only [lockA, lockAll, List.mem_map] at h
  obtain ⟨_, _, rfl⟩ := h
  rfl
@[go_sem] theorem lockA_all {H : List Ob} {n : Nat} : (∀ x, x ∈ lockA H → Ob.low n x = true) ↔ True := ⟨fun _ => trivial, fun _ _ h => lockA_low h⟩
@[go_sem] theorem lockA_take {H l : List Ob} : (lockA H ++ l).take H.length = lockA H := by rw [← lockA_len, List.take_left]
@[go_sem] theorem lockA_same {H : List Ob} : sameObs (lockA H) (lockA H) = true := sameObs_self _
attribute [go_sem] sameObs_self T.imms T.imm T.lows T.low D.low D.lows
attribute [go_sem] canon eI eB eS eK bind_ite bind_map Option.bind_assoc case2_bind trunc List.getElem?_cons_zero List.getElem?_cons_succ List.length_cons List.length_nil List.length_map decide_true decide_false Int.natCast_nonneg Int.toNat_natCast List.getElem?_map Option.map_some Option.map_none Bool.false_eq_true win List.take_zero List.drop_zero List.take_succ_cons List.drop_succ_cons
end
end Go.Am
/- Going on: code with what comes behind it as one function, so that nothing is looked at twice. -/
namespace Go.Am
open Go
set_option linter.unusedSimpArgs false
set_option linter.unusedVariables false
section
variable {P : Program} {hints : FuncId → Hint} {call : CallF} {h : Hint} {ρ : Type}
noncomputable def go (P : Program) (hints : FuncId → Hint) (h : Hint) (c : Code) (s : St) (κ : Ex × St → Option ρ) : Option ρ := (codeX P hints h c s).bind κ
noncomputable def kSeq (P : Program) (hints : FuncId → Hint) (h : Hint) (b : Code) (κ : Ex × St → Option ρ) : Ex × St → Option ρ := fun r => (thenX P hints h b r).bind κ
def kBlk (id : Nat) (κ : Ex × St → Option ρ) : Ex × St → Option ρ := fun r => κ (exOut id r.1, r.2)
theorem codeX_go {c : Code} {s : St} : codeX P hints h c s = go P hints h c s some := by simp [go]
theorem go_of {c : Code} {s : St} {o : Option (Ex × St)} (e : codeX P hints h c s = o) (ρ : Type) (κ : Ex × St → Option ρ) : go P hints h c s κ = o.bind κ := by rw [go, e]
@[congr] theorem go_congr {c : Code} {s s' : St} {κ : Ex × St → Option ρ} (e : s = s') : go P hints h c s κ = go P hints h c s' κ := by rw [e]
@[congr] theorem kSeq_congr {b : Code} {r r' : Ex × St} {κ : Ex × St → Option ρ} (e : r = r') : kSeq P hints h b κ r = kSeq P hints h b κ r' := by rw [e]
@[congr] theorem kBlk_congr {b : Nat} {r r' : Ex × St} {κ : Ex × St → Option ρ} (e : r = r') : kBlk b κ r = kBlk b κ r' := by rw [e]
section
variable {a b : Code} {s : St} {κ : Ex × St → Option ρ} {id j : Nat} {env : List (Nat × SV)} {ct : List ((Nat × Nat) × T)} {H : List Ob}
@[go_sem] theorem go_seq : go P hints h (.seq a b) s κ = go P hints h a s (kSeq P hints h b κ) := by
  simp only [go, codeX_seq, Option.bind_assoc]; rfl
@[go_sem] theorem go_block : go P hints h (.block id a) s κ = go P hints h a s (kBlk id κ) := by
  simp only [go, codeX_block', Option.bind_assoc]; rfl
@[go_sem] theorem go_skip : go P hints h .skip s κ = κ (.normal, s) := by simp only [go, codeX_skip, Option.bind_some]
@[go_sem] theorem go_ret : go P hints h .ret s κ = κ (.ret, s) := by simp only [go, codeX_ret, Option.bind_some]
@[go_sem] theorem go_exit : go P hints h (.exit id) s κ = κ (.exit id, s) := by simp only [go, codeX_exit, Option.bind_some]
@[go_sem] theorem go_scope : go P hints h (.scope a) s κ = go P hints h a s κ := by simp only [go, codeX_scope]
/-- what is known of a slot, written into it -/
def putS (t : Nat) (v : SV) : List (Nat × SV) → List (Nat × SV)
  | [] => []
  | (k, w) :: r => if k = t then (k, v) :: r else (k, w) :: putS t v r
attribute [go_sem] putS
theorem putS_same {t : Nat} {v : SV} : ∀ {env : List (Nat × SV)}, look env t = some v → putS t v env = env
  | [], e => by cases e
  | (k, w) :: r, e => by
    unfold putS
    unfold look at e
    by_cases hk : k = t
    · rw [if_pos hk] at e ⊢
      simp only [Option.some.injEq] at e
      rw [e]
    · rw [if_neg hk] at e ⊢
      rw [putS_same e]
theorem putS_get {t : Nat} {b : Bool} {env : List (Nat × SV)} {ct : List ((Nat × Nat) × T)} {H : List Ob} (e : St.get ⟨env, ct, H⟩ t = .d (.bool b)) : putS t (.d (.bool b)) env = env := by
  refine putS_same ?_
  unfold St.get at e
  cases hl : look env t with
  | none => rw [hl] at e; cases e
  | some v => rw [hl] at e; exact congrArg some e
noncomputable def goCd (P : Program) (hints : FuncId → Hint) (h : Hint) (t : Nat) (v : SV) (a b : Code) (s : St) (κ : Ex × St → Option ρ) : Option ρ :=
  match v with
  | .d (.bool x) => (condX P hints h v a b { s with env := putS t (.d (.bool x)) s.env }).bind κ
  | _ => (condX P hints h v a b s).bind κ
@[congr] theorem goCd_congr {t : Nat} {v v' : SV} (e : v = v') : goCd P hints h t v a b s κ = goCd P hints h t v' a b s κ := by rw [e]
@[go_sem] theorem go_cond {t : Nat} : go P hints h (.cond (.tmp t) a b) s κ = goCd P hints h t (s.get t) a b s κ := by
  obtain ⟨env, ct, H⟩ := s
  simp only [go, goCd, codeX_cond', val_tmp]
  split
  · rename_i x hx
    rw [hx]
    simp only [putS_get hx]
  · rfl
@[go_sem] theorem goCd_bool {t : Nat} {x : Bool} : goCd P hints h t (.d (.bool x)) a b ⟨env, ct, H⟩ κ = if x = true then go P hints h a ⟨putS t (.d (.bool true)) env, ct, H⟩ κ else go P hints h b ⟨putS t (.d (.bool false)) env, ct, H⟩ κ := by
  cases x <;> simp only [goCd, condX_bool, Bool.false_eq_true, if_false, if_true] <;> rfl
@[go_sem] theorem go_condC {x : Bool} : go P hints h (.cond (.const (.bool x)) a b) s κ = if x = true then go P hints h a s κ else go P hints h b s κ := by
  cases x <;> simp only [go, codeX_cond', val_bool, condX_bool, Bool.false_eq_true, if_false, if_true]
@[go_sem] theorem kSeq_n : kSeq P hints h b κ (.normal, s) = go P hints h b s κ := rfl
@[go_sem] theorem kSeq_r : kSeq P hints h b κ (.ret, s) = κ (.ret, s) := rfl
@[go_sem] theorem kSeq_e : kSeq P hints h b κ (.exit id, s) = κ (.exit id, s) := rfl
@[go_sem] theorem kBlk_n : kBlk id κ (.normal, s) = κ (.normal, s) := rfl
@[go_sem] theorem kBlk_r : kBlk id κ (.ret, s) = κ (.ret, s) := rfl
@[go_sem] theorem kBlk_e : kBlk id κ (.exit j, s) = if j = id then κ (.normal, s) else κ (.exit j, s) := by
  unfold kBlk exOut; by_cases e : j = id <;> simp [e]
end

/-! ### regions in the text's order -/
noncomputable def goL (P : Program) (call : CallF) (h : Hint) (L : List Lite) (ls : List Nat) (s : St) (κ : Ex × St → Option ρ) : Option ρ := (runL P call h L s).bind fun s' => κ (.normal, prune ls s')
/-- behind an operation -/
noncomputable def goB (P : Program) (call : CallF) (h : Hint) (x : Option (SV × Wk)) (d : Option Nat) (r : List Lite) (ls : List Nat) (s : St) (κ : Ex × St → Option ρ) : Option ρ := x.bind fun p => goL P call h r ls (s.fin d p.1 p.2) κ
section
variable {d : Option Nat} {ty : TypeId} {op : Op} {L r : List Lite} {ls : List Nat} {s s' : St} {κ : Ex × St → Option ρ} {x x' : Option (SV × Wk)} {env : List (Nat × SV)} {ct ct' : List ((Nat × Nat) × T)} {H H' : List Ob} {tr : List Tr} {v v' : SV} {t : Nat} {b want : Bool}
@[congr] theorem goL_congr (e : s = s') : goL P call h L ls s κ = goL P call h L ls s' κ := by rw [e]
@[congr] theorem goB_congr (e : x = x') : goB P call h x d r ls s κ = goB P call h x' d r ls s κ := by rw [e]
theorem go_rg {c : Code} (e : ∀ s, codeX P hints h c s = (runL P call h L s).bind fun s' => some (.normal, prune ls s')) (s : St) (κ : Ex × St → Option ρ) : go P hints h c s κ = goL P call h L ls s κ := by
  simp only [go, e, Option.bind_assoc]; rfl
@[go_sem] theorem goL_nil : goL P call h [] ls s κ = κ (.normal, prune ls s) := rfl
@[go_sem] theorem goL_plain : goL P call h (⟨d, ty, op, none⟩ :: r) ls ⟨env, ct, H⟩ κ = goB P call h (stepE P call h (d.getD 0) ty op (St.val ⟨env, ct, H⟩) ⟨ct, H, []⟩) d r ls ⟨env, ct, H⟩ κ := by
  simp only [goL, goB, runL_plain, Option.bind_assoc]; rfl
@[go_sem] theorem goB_some {k : Wk} : goB P call h (some (v, k)) d r ls s κ = goL P call h r ls (s.fin d v k) κ := rfl
@[go_sem] theorem goB_none : goB P call h none d r ls s κ = none := rfl
@[go_sem] theorem goB_bind {α : Type} {o : Option α} {f : α → Option (SV × Wk)} : goB P call h (o.bind f) d r ls s κ = o.bind fun y => goB P call h (f y) d r ls s κ := by simp only [goB, Option.bind_assoc]
@[go_sem] theorem goB_ite {c : Prop} [Decidable c] {y : Option (SV × Wk)} : goB P call h (if c then x else y) d r ls s κ = if c then goB P call h x d r ls s κ else goB P call h y d r ls s κ := by split <;> rfl
@[go_sem] theorem goB_case {α β : Type} {o : Option (α ⊕ β)} {f : α → Option (SV × Wk)} {g : β → Option (SV × Wk)} : goB P call h (case2 o f g) d r ls s κ = case2 o (fun y => goB P call h (f y) d r ls s κ) (fun y => goB P call h (g y) d r ls s κ) := case2_bind
noncomputable def goG (P : Program) (call : CallF) (h : Hint) (t : Nat) (want : Bool) (g : SV) (d : Option Nat) (ty : TypeId) (op : Op) (r : List Lite) (ls : List Nat) (s : St) (κ : Ex × St → Option ρ) : Option ρ :=
  match g with
  | .d (.bool b) => (guardL P call h d ty op want r { s with env := putS t (.d (.bool b)) s.env } g).bind fun s' => κ (.normal, prune ls s')
  | _ => (guardL P call h d ty op want r s g).bind fun s' => κ (.normal, prune ls s')
@[congr] theorem goG_congr (e : v = v') : goG P call h t want v d ty op r ls s κ = goG P call h t want v' d ty op r ls s κ := by rw [e]
@[go_sem] theorem goL_guard : goL P call h (⟨d, ty, op, some (t, want)⟩ :: r) ls s κ = goG P call h t want (s.get t) d ty op r ls s κ := by
  obtain ⟨env, ct, H⟩ := s
  simp only [goL, goG, runL_guard]
  split
  · rename_i b hb
    rw [hb]
    simp only [putS_get hb]
  · rfl
@[go_sem] theorem goG_t : goG P call h t true (.d (.bool b)) d ty op r ls ⟨env, ct, H⟩ κ = if b = true then goB P call h (stepE P call h (d.getD 0) ty op (St.val ⟨putS t (.d (.bool true)) env, ct, H⟩) ⟨ct, H, []⟩) d r ls ⟨putS t (.d (.bool true)) env, ct, H⟩ κ else goL P call h r ls (St.fin ⟨putS t (.d (.bool false)) env, ct, H⟩ d (.tup []) ⟨ct, H, []⟩) κ := by
  cases b
  · simp only [goG, guardL_bool]; rfl
  · simp only [goG, guardL_bool, if_true, goB, Option.bind_assoc]; rfl
@[go_sem] theorem goG_f : goG P call h t false (.d (.bool b)) d ty op r ls ⟨env, ct, H⟩ κ = if b = true then goL P call h r ls (St.fin ⟨putS t (.d (.bool true)) env, ct, H⟩ d (.tup []) ⟨ct, H, []⟩) κ else goB P call h (stepE P call h (d.getD 0) ty op (St.val ⟨putS t (.d (.bool false)) env, ct, H⟩) ⟨ct, H, []⟩) d r ls ⟨putS t (.d (.bool false)) env, ct, H⟩ κ := by
  cases b
  · simp only [goG, guardL_boolF, goB, Bool.false_eq_true, if_false, Option.bind_assoc]; rfl
  · simp only [goG, guardL_boolF]; rfl
@[go_sem] theorem goG_skip : goG P call h t want (.tup []) d ty op r ls ⟨env, ct, H⟩ κ = goL P call h r ls (St.fin ⟨env, ct, H⟩ d (.tup []) ⟨ct, H, []⟩) κ := by
  simp only [goG, guardL_skip]; rfl
end

/-! ### regions that draw -/
noncomputable def goR (P : Program) (call : CallF) (h : Hint) (L : List LF) (ls : List Nat) (c : Cf) (acc : List Fp) (κ : Ex × St → Option ρ) : Option ρ := (runC P call h L c acc).bind fun s' => κ (.normal, prune ls s')
noncomputable def goRB (P : Program) (call : CallF) (h : Hint) (x : Option (SV × Wk)) (o : LF) (r : List LF) (ls : List Nat) (c : Cf) (acc : List Fp) (w : Bool) (κ : Ex × St → Option ρ) : Option ρ := x.bind fun p => (nextC P call h o r c acc w p.1 p.2).bind fun s' => κ (.normal, prune ls s')
noncomputable def goRG (P : Program) (call : CallF) (h : Hint) (t : Nat) (want : Bool) (v : SV) (o : LF) (r : List LF) (ls : List Nat) (c : Cf) (acc : List Fp) (κ : Ex × St → Option ρ) : Option ρ :=
  match v with
  | .d (.bool b) => (guardC P call h o want r ({ c.1 with env := putS t (.d (.bool b)) c.1.env }, c.2) acc v).bind fun s' => κ (.normal, prune ls s')
  | _ => (guardC P call h o want r c acc v).bind fun s' => κ (.normal, prune ls s')
section
variable {d : Option Nat} {g : Option (Nat × Bool)} {ty : TypeId} {op : Op} {lk u : List Nat} {nd eff rds hr ho : Bool} {o : LF} {L r : List LF} {ls : List Nat} {κ : Ex × St → Option ρ} {x x' : Option (SV × Wk)} {env : List (Nat × SV)} {ct ct' : List ((Nat × Nat) × T)} {H H' : List Ob} {tr : List Tr} {v v' : SV} {t n : Nat} {b want w : Bool} {c c' : Cf} {hi : Hist} {acc acc' : List Fp}
@[congr] theorem goR_congr (e : c = c') (f : acc = acc') : goR P call h L ls c acc κ = goR P call h L ls c' acc' κ := by rw [e, f]
@[congr] theorem goRB_congr (e : x = x') : goRB P call h x o r ls c acc w κ = goRB P call h x' o r ls c acc w κ := by rw [e]
@[congr] theorem goRG_congr (e : v = v') : goRG P call h t want v o r ls c acc κ = goRG P call h t want v' o r ls c acc κ := by rw [e]
theorem go_rgD {q : Code} (e : ∀ s, codeX P hints h q s = (runC P call h L (s, hist0 s) []).bind fun s' => some (.normal, prune ls s')) (s : St) (κ : Ex × St → Option ρ) : go P hints h q s κ = goR P call h L ls (s, hist0 s) [] κ := by
  simp only [go, e, Option.bind_assoc]; rfl
@[go_sem] theorem goR_nil {s : St} : goR P call h [] ls (s, hi) acc κ = κ (.normal, prune ls s) := rfl
@[go_sem] theorem goR_plain : goR P call h (⟨d, none, ty, op, lk, u, nd, eff, rds, hr, ho⟩ :: r) ls (⟨env, ct, H⟩, hi) acc κ = goRB P call h (stepE P call h (d.getD 0) ty op (St.val ⟨env, ct, H⟩) ⟨ct, H, []⟩) ⟨d, none, ty, op, lk, u, nd, eff, rds, hr, ho⟩ r ls (⟨env, ct, H⟩, hi) acc true κ := by
  simp only [goR, goRB, runC_plain, Option.bind_assoc]
@[go_sem] theorem goR_guard : goR P call h (⟨d, some (t, want), ty, op, lk, u, nd, eff, rds, hr, ho⟩ :: r) ls c acc κ = goRG P call h t want (c.1.get t) ⟨d, some (t, want), ty, op, lk, u, nd, eff, rds, hr, ho⟩ r ls c acc κ := by
  obtain ⟨⟨env, ct, H⟩, hi⟩ := c
  simp only [goR, goRG, runC_guard]
  split
  · rename_i b hb
    rw [hb]
    simp only [putS_get hb]
  · rfl
@[go_sem] theorem goRG_t : goRG P call h t true (.d (.bool b)) o r ls (⟨env, ct, H⟩, hi) acc κ = if b = true then goRB P call h (stepE P call h (o.d.getD 0) o.ty o.op (St.val ⟨putS t (.d (.bool true)) env, ct, H⟩) ⟨ct, H, []⟩) o r ls (⟨putS t (.d (.bool true)) env, ct, H⟩, hi) acc true κ else goRB P call h (some (.tup [], ⟨ct, H, []⟩)) o r ls (⟨putS t (.d (.bool false)) env, ct, H⟩, hi) acc false κ := by
  cases b
  · simp only [goRG, guardC_bool]; rfl
  · simp only [goRG, guardC_bool, if_true, goRB, Option.bind_assoc]; rfl
@[go_sem] theorem goRG_f : goRG P call h t false (.d (.bool b)) o r ls (⟨env, ct, H⟩, hi) acc κ = if b = true then goRB P call h (some (.tup [], ⟨ct, H, []⟩)) o r ls (⟨putS t (.d (.bool true)) env, ct, H⟩, hi) acc false κ else goRB P call h (stepE P call h (o.d.getD 0) o.ty o.op (St.val ⟨putS t (.d (.bool false)) env, ct, H⟩) ⟨ct, H, []⟩) o r ls (⟨putS t (.d (.bool false)) env, ct, H⟩, hi) acc true κ := by
  cases b
  · simp only [goRG, guardC_boolF, goRB, Bool.false_eq_true, if_false, Option.bind_assoc]; rfl
  · simp only [goRG, guardC_boolF]; rfl
@[go_sem] theorem goRG_skip : goRG P call h t want (.tup []) o r ls (⟨env, ct, H⟩, hi) acc κ = goRB P call h (some (.tup [], ⟨ct, H, []⟩)) o r ls (⟨env, ct, H⟩, hi) acc false κ := by
  simp only [goRG, guardC_skip]; rfl
@[go_sem] theorem goRB_none : goRB P call h none o r ls c acc w κ = none := rfl
@[go_sem] theorem goRB_bind {α : Type} {y : Option α} {f : α → Option (SV × Wk)} : goRB P call h (y.bind f) o r ls c acc w κ = y.bind fun z => goRB P call h (f z) o r ls c acc w κ := by simp only [goRB, Option.bind_assoc]
@[go_sem] theorem goRB_ite {q : Prop} [Decidable q] {y : Option (SV × Wk)} : goRB P call h (if q then x else y) o r ls c acc w κ = if q then goRB P call h x o r ls c acc w κ else goRB P call h y o r ls c acc w κ := by split <;> rfl
@[go_sem] theorem goRB_case {α β : Type} {y : Option (α ⊕ β)} {f : α → Option (SV × Wk)} {g : β → Option (SV × Wk)} : goRB P call h (case2 y f g) o r ls c acc w κ = case2 y (fun z => goRB P call h (f z) o r ls c acc w κ) (fun z => goRB P call h (g z) o r ls c acc w κ) := case2_bind
@[go_sem] theorem goRB_quiet : goRB P call h (some (v, ⟨ct', H', tr⟩)) ⟨d, g, ty, op, lk, [], false, eff, rds, hr, ho⟩ r ls c acc w κ = goR P call h r ls (c.1.fin d v ⟨ct', H', tr⟩, histAdd c.2 tr d v) (acc ++ [fp0]) κ := by
  simp only [goRB, Option.bind_some, nextC_quiet]; rfl
@[go_sem] theorem goRB_last : goRB P call h (some (v, ⟨ct', H', tr⟩)) ⟨d, g, ty, op, lk, n :: u, false, eff, rds, hr, ho⟩ r ls c acc w κ = if (n :: u).all (apartAt acc (fpW ⟨d, g, ty, op, lk, n :: u, false, eff, rds, hr, ho⟩ c.2 c.1 w v ⟨ct', H', tr⟩)) = true then goR P call h r ls (c.1.fin d v ⟨ct', H', tr⟩, histAdd c.2 tr d v) (acc ++ [fp0]) κ else none := by
  simp only [goRB, Option.bind_some, nextC_last, bind_ite]; rfl
@[go_sem] theorem goRB_mk : goRB P call h (some (v, ⟨ct', H', tr⟩)) ⟨d, g, ty, op, lk, u, true, eff, rds, hr, ho⟩ r ls c acc w κ = if u.all (apartAt acc (fpW ⟨d, g, ty, op, lk, u, true, eff, rds, hr, ho⟩ c.2 c.1 w v ⟨ct', H', tr⟩)) = true then goR P call h r ls (c.1.fin d v ⟨ct', H', tr⟩, histAdd c.2 tr d v) (acc ++ [fpW ⟨d, g, ty, op, lk, u, true, eff, rds, hr, ho⟩ c.2 c.1 w v ⟨ct', H', tr⟩]) κ else none := by
  simp only [goRB, Option.bind_some, nextC_mk, bind_ite]; rfl
end
end

/-! ### maps -/
section
variable {P : Program} {κ ν : Type} [DecidableEq κ] {fk : κ → D} {fv : ν → D}
/-- a map's entries as pairs -/
def ents (fk : κ → D) (fv : ν → D) (l : List (κ × ν)) : List (D × T) := l.map fun p => (fk p.1, .d (fv p.2))
def mget : List (κ × ν) → κ → Option ν
  | [], _ => none
  | (a, b) :: r, k => if k = a then some b else mget r k
def mput : List (κ × ν) → κ → ν → List (κ × ν)
  | [], k, v => [(k, v)]
  | (a, b) :: r, k, v => if k = a then (k, v) :: r else (a, b) :: mput r k v
def mhas (l : List (κ × ν)) (k : κ) : Bool := (mget l k).isSome
def mval (z : ν) (l : List (κ × ν)) (k : κ) : ν := (mget l k).getD z
omit [DecidableEq κ] in
theorem ents_nil : ents fk fv [] = [] := rfl
def lookOb (P : Program) (t : TypeId) (ob : Ob) (kd : D) (ok : Bool) : Option SV :=
  (mapOf P t).bind fun (kt, e) => if (keyEq P kt kd kd).isSome then (match ob with | .map es => findK (keyEq P kt) kd es | _ => none).bind fun r => (zeroOf P e).bind fun z =>
        (match r with | some (.d x) => some (x, true) | some _ => none | none => some (z, false)).map fun (x, b) => if ok then .tup [.d x, .d (.bool b)] else .d x
      else none
omit [DecidableEq κ] in
@[go_sem] theorem lookupE_map {t : TypeId} {o : Nat} {kd : D} {ok : Bool} {H : List Ob} : lookupE P t (.d (.map o)) (.d kd) ok H = (H[o]?).bind fun ob => lookOb P t ob kd ok := by
  unfold lookupE lookOb
  cases mapOf P t with
  | none => cases H[o]? <;> rfl
  | some q =>
    obtain ⟨kt, e⟩ := q
    simp only [Option.bind_some]
    cases H[o]? with
    | none => simp
    | some ob => simp only [Option.bind_some]; cases ob <;> rfl
def putOb (P : Program) (t : TypeId) (ob : Ob) (kd y : D) : Option (List (D × T)) :=
  (mapOf P t).bind fun (kt, _) => if (keyEq P kt kd kd).isSome then (match ob with | .map es => putK (keyEq P kt) kd (.d y) es | _ => none) else none
def putAt (P : Program) (t : TypeId) (o : Nat) (kd : D) (x : T) (k : Wk) : Option Wk :=
  match x with
  | .d y => (k.H[o]?).bind fun ob => (putOb P t ob kd y).bind fun es => some { k with H := k.H.set o (.map es) }
  | _ => none
omit [DecidableEq κ] in
@[go_sem] theorem mapPut_map {nv : Nat} {t : TypeId} {o : Nat} {kd : D} {v : SV} {k : Wk} : mapPutE P nv t (.d (.map o)) (.d kd) v k = if ((mapOf P t).bind fun q => keyEq P q.1 kd kd).isSome = true then (absorb nv v k).bind fun q => putAt P t o kd q.1 q.2 else none := by
  unfold mapPutE putAt putOb
  cases mapOf P t with
  | none => rfl
  | some q =>
    obtain ⟨kt, e⟩ := q
    simp only [Option.bind_some]
    cases hk : (keyEq P kt kd kd).isSome with
    | false => simp
    | true =>
      simp only [if_true]
      congr 1
      funext ⟨x, k⟩
      simp only
      cases x with
      | d y =>
        cases k.H[o]? with
        | none => rfl
        | some ob => cases ob <;> simp only [Option.bind_some, Option.bind_none, Option.map_eq_bind] <;> rfl
      | _ => cases k.H[o]? <;> rfl
omit [DecidableEq κ] in
@[go_sem] theorem putAt_d {t : TypeId} {o : Nat} {kd y : D} {ct : List ((Nat × Nat) × T)} {H : List Ob} {tr : List Tr} : putAt P t o kd (.d y) ⟨ct, H, tr⟩ = (H[o]?).bind fun ob => (putOb P t ob kd y).bind fun es => some ⟨ct, H.set o (.map es), tr⟩ := rfl
omit [DecidableEq κ] in
@[go_sem] theorem len_map {t : TypeId} {o : Nat} {H : List Ob} : lenE P t H (.d (.map o)) = (H[o]?).bind fun ob => match P.underlying t, ob with | some (.map _ _), .map es => some (es.length : Int) | _, _ => none := by
  show (match P.underlying t, H[o]? with | some (.map _ _), some (.map es) => some (es.length : Int) | _, _ => none) = _
  cases H[o]? with
  | none => cases P.underlying t with
    | none => rfl
    | some d => cases d <;> rfl
  | some ob => cases P.underlying t with
    | none => rfl
    | some d => cases d <;> cases ob <;> rfl
omit [DecidableEq κ] in
@[go_sem] theorem ents_len {l : List (κ × ν)} : (ents fk fv l).length = l.length := by simp [ents]
theorem findK_ents {kt : TypeId} (hk : ∀ a b, keyEq P kt (fk a) (fk b) = some (decide (a = b))) (k : κ) : ∀ l : List (κ × ν), findK (keyEq P kt) (fk k) (ents fk fv l) = some ((mget l k).map fun v => .d (fv v))
  | [] => rfl
  | (a, b) :: r => by
    have ih := findK_ents hk k r
    simp only [ents, List.map_cons, findK, hk, Option.bind_some, mget, decide_eq_true_eq] at ih ⊢
    split
    · rfl
    · exact ih
theorem putK_ents {kt : TypeId} (hk : ∀ a b, keyEq P kt (fk a) (fk b) = some (decide (a = b))) (k : κ) (v : ν) : ∀ l : List (κ × ν), putK (keyEq P kt) (fk k) (.d (fv v)) (ents fk fv l) = some (ents fk fv (mput l k v))
  | [] => rfl
  | (a, b) :: r => by
    have ih := putK_ents hk k v r
    simp only [ents, List.map_cons, putK, hk, Option.bind_some, mput, decide_eq_true_eq] at ih ⊢
    split
    · rfl
    · rw [ih]; rfl
theorem lookOb_ents {t kt e : TypeId} {l : List (κ × ν)} {k : κ} {z : ν} {ok : Bool} (hm : mapOf P t = some (kt, e)) (hk : ∀ a b, keyEq P kt (fk a) (fk b) = some (decide (a = b))) (hz : zeroOf P e = some (fv z)) :
    lookOb P t (.map (ents fk fv l)) (fk k) ok = some (if ok = true then .tup [.d (fv (mval z l k)), .d (.bool (mhas l k))] else .d (fv (mval z l k))) := by
  simp only [lookOb, hm, Option.bind_some, hk, Option.isSome_some, if_true, findK_ents hk, hz, mval, mhas]
  cases mget l k <;> rfl
theorem lookOb_entsN {t kt e : TypeId} {l : List (κ × ν)} {k : κ} {z : D} {z' : ν} {ok : Bool} (hm : mapOf P t = some (kt, e)) (hk : ∀ a b, keyEq P kt (fk a) (fk b) = some (decide (a = b))) (hz : zeroOf P e = some z) :
    lookOb P t (.map (ents fk fv l)) (fk k) ok = if mhas l k = true then some (if ok = true then .tup [.d (fv (mval z' l k)), .d (.bool true)] else .d (fv (mval z' l k))) else some (if ok = true then .tup [.d z, .d (.bool false)] else .d z) := by
  rcases Option.eq_none_or_eq_some (mget l k) with hh | ⟨v, hh⟩
  · have h2 : mhas l k = false := by simp [mhas, hh]
    simp [lookOb, hm, hk, findK_ents hk, hz, mval, hh, h2]
  · have h2 : mhas l k = true := by simp [mhas, hh]
    simp [lookOb, hm, hk, findK_ents hk, hz, mval, hh, h2]
theorem putOb_ents {t kt e : TypeId} {l : List (κ × ν)} {k : κ} {v : ν} (hm : mapOf P t = some (kt, e)) (hk : ∀ a b, keyEq P kt (fk a) (fk b) = some (decide (a = b))) :
    putOb P t (.map (ents fk fv l)) (fk k) (fv v) = some (ents fk fv (mput l k v)) := by
  simp only [putOb, hm, Option.bind_some, hk, Option.isSome_some, if_true, putK_ents hk]
end
theorem sameObs_pre (p a b : List Ob) : sameObs (p ++ a) (p ++ b) = sameObs a b := by
  induction p with
  | nil => rfl
  | cons o p ih => cases o <;> simp [sameObs, ih]
@[go_sem] theorem lockA_sameA {H a b : List Ob} : sameObs (lockA H ++ a) (lockA H ++ b) = sameObs a b := sameObs_pre _ a b
@[go_sem] theorem lockA_sameL {H b : List Ob} : sameObs (lockA H) (lockA H ++ b) = true := by have := sameObs_pre (lockA H) [] b; rwa [List.append_nil] at this
@[go_sem] theorem lockA_imm {H : List Ob} : obsImm (lockA H) = true := by
  unfold lockA lockAll
  induction H with
  | nil => rfl
  | cons o r ih => simpa [obsImm] using ih
@[go_sem] theorem lockA_immA {H a : List Ob} : obsImm (lockA H ++ a) = obsImm a := by
  unfold lockA lockAll
  induction H with
  | nil => rfl
  | cons o r ih => simpa [obsImm] using ih
attribute [go_sem] obsImm
section
variable {κ ν : Type} {fk : κ → D} {fv : ν → D}
theorem ents_imm (hk : ∀ x, (fk x).imm = true) (hv : ∀ x, (fv x).imm = true) (l : List (κ × ν)) : ((ents fk fv l).all fun e => e.1.imm && e.2.imm) = true := by
  simp [ents, List.all_eq_true, T.imm, hk, hv]
end
theorem pre_get {p l : List Ob} {m : Nat} (h : p.length = m) (n : Nat) : (p ++ l)[m + n]? = l[n]? := by subst h; simp [List.getElem?_append_right]
theorem pre_set {p l : List Ob} {m : Nat} (h : p.length = m) (n : Nat) (x : Ob) : (p ++ l).set (m + n) x = p ++ l.set n x := by subst h; simp [List.set_append_right]
@[go_sem high] theorem lockA_get0 {H l : List Ob} : (lockA H ++ l)[H.length]? = l[0]? := pre_get lockA_len 0
@[go_sem high] theorem lockA_get {H l : List Ob} {n : Nat} : (lockA H ++ l)[H.length + n]? = l[n]? := pre_get lockA_len n
@[go_sem high] theorem lockA_set0 {H l : List Ob} {x : Ob} : (lockA H ++ l).set H.length x = lockA H ++ l.set 0 x := pre_set lockA_len 0 x
@[go_sem high] theorem lockA_set {H l : List Ob} {n : Nat} {x : Ob} : (lockA H ++ l).set (H.length + n) x = lockA H ++ l.set n x := pre_set lockA_len n x
@[go_sem high] theorem lockA_lenA {H l : List Ob} : (lockA H ++ l).length = H.length + l.length := by rw [List.length_append, lockA_len]
/-- rows that are written out in the program -/
def lit2 (x y : Int) : List Int := [x, y]
def lit3 (x y z : Int) : List Int := [x, y, z]
def lit4 (x y z w : Int) : List Int := [x, y, z, w]
theorem own_lit2 {x y : Int} : T.own [.d (.int .i64 x), .d (.int .i64 y)] = T.own (tl eI (lit2 x y)) := rfl
theorem own_lit3 {x y z : Int} : T.own [.d (.int .i64 x), .d (.int .i64 y), .d (.int .i64 z)] = T.own (tl eI (lit3 x y z)) := rfl
theorem own_lit4 {x y z w : Int} : T.own [.d (.int .i64 x), .d (.int .i64 y), .d (.int .i64 z), .d (.int .i64 w)] = T.own (tl eI (lit4 x y z w)) := rfl
theorem lit2_take {x y : Int} : List.take 2 (List.map eI (lit2 x y)) = List.map eI (lit2 x y) := rfl
theorem lit3_take {x y z : Int} : List.take 3 (List.map eI (lit3 x y z)) = List.map eI (lit3 x y z) := rfl
theorem lit4_take {x y z w : Int} : List.take 4 (List.map eI (lit4 x y z w)) = List.map eI (lit4 x y z w) := rfl
theorem lit2_len {x y : Int} : (lit2 x y).length = 2 := rfl
theorem lit3_len {x y z : Int} : (lit3 x y z).length = 3 := rfl
theorem lit4_len {x y z w : Int} : (lit4 x y z w).length = 4 := rfl
end Go.Am
/- The table's equations, for code with what comes behind it. Printed by a program of mine (wip/dev/tab2.py). -/
namespace Go.Lib
open Go Go.Am Go.Proofs
set_option linter.unusedVariables false
variable {ρ : Type}
theorem gg3_0 (s : St) (κ : Ex × St → Option ρ) : go P hints hint3 (r3 0) s κ = goL P call hint3 o3_0 [0, 1] s κ := go_rg rg3_0 s κ
attribute [go_sem] o3_0
theorem gg3_1 (s : St) (κ : Ex × St → Option ρ) : go P hints hint3 (r3 1) s κ = goL P call hint3 o3_1 [0, 1, 5] s κ := go_rg rg3_1 s κ
attribute [go_sem] o3_1
theorem gg3_2 (s : St) (κ : Ex × St → Option ρ) : go P hints hint3 (r3 2) s κ = goL P call hint3 o3_2 [0, 1, 5, 14] s κ := go_rg rg3_2 s κ
attribute [go_sem] o3_2
theorem gg3_3 (s : St) (κ : Ex × St → Option ρ) : go P hints hint3 (r3 3) s κ = goL P call hint3 o3_3 [4] s κ := go_rg rg3_3 s κ
attribute [go_sem] o3_3
theorem gg3_4 (s : St) (κ : Ex × St → Option ρ) : go P hints hint3 (r3 4) s κ = goL P call hint3 o3_4 [1, 6] s κ := go_rg rg3_4 s κ
attribute [go_sem] o3_4
theorem gg3_5 (s : St) (κ : Ex × St → Option ρ) : go P hints hint3 (r3 5) s κ = goL P call hint3 o3_5 [6, 7, 8] s κ := go_rg rg3_5 s κ
attribute [go_sem] o3_5
theorem gg3_6 (s : St) (κ : Ex × St → Option ρ) : go P hints hint3 (r3 6) s κ = goL P call hint3 o3_6 [6, 7, 8, 28] s κ := go_rg rg3_6 s κ
attribute [go_sem] o3_6
theorem gg3_7 (s : St) (κ : Ex × St → Option ρ) : go P hints hint3 (r3 7) s κ = goL P call hint3 o3_7 [4] s κ := go_rg rg3_7 s κ
attribute [go_sem] o3_7
theorem gg3_8 (s : St) (κ : Ex × St → Option ρ) : go P hints hint3 (r3 8) s κ = goL P call hint3 o3_8 [7, 9] s κ := go_rg rg3_8 s κ
attribute [go_sem] o3_8
theorem gg3_9 (s : St) (κ : Ex × St → Option ρ) : go P hints hint3 (r3 9) s κ = goL P call hint3 o3_9 [7, 9, 10] s κ := go_rg rg3_9 s κ
attribute [go_sem] o3_9
theorem gg3_10 (s : St) (κ : Ex × St → Option ρ) : go P hints hint3 (r3 10) s κ = goL P call hint3 o3_10 [7, 9, 10, 39] s κ := go_rg rg3_10 s κ
attribute [go_sem] o3_10
theorem gg3_12 (s : St) (κ : Ex × St → Option ρ) : go P hints hint3 (r3 12) s κ = goR P call hint3 o3_12 [7, 9, 10, 60] (s, hist0 s) [] κ := go_rgD rg3_12 s κ
attribute [go_sem] o3_12
theorem gg3_13 (s : St) (κ : Ex × St → Option ρ) : go P hints hint3 (r3 13) s κ = goL P call hint3 o3_13 [4] s κ := go_rg rg3_13 s κ
attribute [go_sem] o3_13
theorem gg3_11 (s : St) (κ : Ex × St → Option ρ) : go P hints hint3 (r3 11) s κ = goL P call hint3 o3_11 [7, 9, 10] s κ := go_rg rg3_11 s κ
attribute [go_sem] o3_11
theorem gg3_14 (s : St) (κ : Ex × St → Option ρ) : go P hints hint3 (r3 14) s κ = goL P call hint3 o3_14 [4] s κ := go_rg rg3_14 s κ
attribute [go_sem] o3_14
theorem gg4_0 (s : St) (κ : Ex × St → Option ρ) : go P hints hint4 (r4 0) s κ = goL P call hint4 o4_0 [0, 1] s κ := go_rg rg4_0 s κ
attribute [go_sem] o4_0
theorem gg4_1 (s : St) (κ : Ex × St → Option ρ) : go P hints hint4 (r4 1) s κ = goL P call hint4 o4_1 [0, 1, 14] s κ := go_rg rg4_1 s κ
attribute [go_sem] o4_1
theorem gg4_2 (s : St) (κ : Ex × St → Option ρ) : go P hints hint4 (r4 2) s κ = goL P call hint4 o4_2 [4] s κ := go_rg rg4_2 s κ
attribute [go_sem] o4_2
theorem gg4_3 (s : St) (κ : Ex × St → Option ρ) : go P hints hint4 (r4 3) s κ = goL P call hint4 o4_3 [0, 1, 5, 6] s κ := go_rg rg4_3 s κ
attribute [go_sem] o4_3
theorem gg4_4 (s : St) (κ : Ex × St → Option ρ) : go P hints hint4 (r4 4) s κ = goL P call hint4 o4_4 [0, 5, 6, 7, 8] s κ := go_rg rg4_4 s κ
attribute [go_sem] o4_4
theorem gg4_5 (s : St) (κ : Ex × St → Option ρ) : go P hints hint4 (r4 5) s κ = goL P call hint4 o4_5 [5, 6, 7, 8, 9, 10] s κ := go_rg rg4_5 s κ
attribute [go_sem] o4_5
theorem gg4_6 (s : St) (κ : Ex × St → Option ρ) : go P hints hint4 (r4 6) s κ = goL P call hint4 o4_6 [9, 10, 53] s κ := go_rg rg4_6 s κ
attribute [go_sem] o4_6
theorem gg4_7 (s : St) (κ : Ex × St → Option ρ) : go P hints hint4 (r4 7) s κ = goL P call hint4 o4_7 [4] s κ := go_rg rg4_7 s κ
attribute [go_sem] o4_7
theorem gg4_8 (s : St) (κ : Ex × St → Option ρ) : go P hints hint4 (r4 8) s κ = goL P call hint4 o4_8 [9, 10, 11] s κ := go_rg rg4_8 s κ
attribute [go_sem] o4_8
theorem gg4_9 (s : St) (κ : Ex × St → Option ρ) : go P hints hint4 (r4 9) s κ = goL P call hint4 o4_9 [9, 10, 11, 57] s κ := go_rg rg4_9 s κ
attribute [go_sem] o4_9
theorem gg4_11 (s : St) (κ : Ex × St → Option ρ) : go P hints hint4 (r4 11) s κ = goR P call hint4 o4_11 [9, 10, 11, 69] (s, hist0 s) [] κ := go_rgD rg4_11 s κ
attribute [go_sem] o4_11
theorem gg4_12 (s : St) (κ : Ex × St → Option ρ) : go P hints hint4 (r4 12) s κ = goL P call hint4 o4_12 [4] s κ := go_rg rg4_12 s κ
attribute [go_sem] o4_12
theorem gg4_10 (s : St) (κ : Ex × St → Option ρ) : go P hints hint4 (r4 10) s κ = goL P call hint4 o4_10 [9, 10, 11] s κ := go_rg rg4_10 s κ
attribute [go_sem] o4_10
theorem gg4_13 (s : St) (κ : Ex × St → Option ρ) : go P hints hint4 (r4 13) s κ = goL P call hint4 o4_13 [4] s κ := go_rg rg4_13 s κ
attribute [go_sem] o4_13
theorem gg6_0 (s : St) (κ : Ex × St → Option ρ) : go P hints hint6 (r6 0) s κ = goL P call hint6 o6_0 [0, 1, 4] s κ := go_rg rg6_0 s κ
attribute [go_sem] o6_0
theorem gg6_1 (s : St) (κ : Ex × St → Option ρ) : go P hints hint6 (r6 1) s κ = goL P call hint6 o6_1 [0, 1, 4, 8, 9, 10] s κ := go_rg rg6_1 s κ
attribute [go_sem] o6_1
theorem gg6_2 (s : St) (κ : Ex × St → Option ρ) : go P hints hint6 (r6 2) s κ = goL P call hint6 o6_2 [0, 1, 4, 8, 9, 10, 11] s κ := go_rg rg6_2 s κ
attribute [go_sem] o6_2
theorem gg6_3 (s : St) (κ : Ex × St → Option ρ) : go P hints hint6 (r6 3) s κ = goL P call hint6 o6_3 [0, 1, 4, 7, 8, 9, 10] s κ := go_rg rg6_3 s κ
attribute [go_sem] o6_3
theorem gg6_4 (s : St) (κ : Ex × St → Option ρ) : go P hints hint6 (r6 4) s κ = goL P call hint6 o6_4 [0, 1, 4, 7, 8, 9, 10, 17] s κ := go_rg rg6_4 s κ
attribute [go_sem] o6_4
theorem gg6_5 (s : St) (κ : Ex × St → Option ρ) : go P hints hint6 (r6 5) s κ = goL P call hint6 o6_5 [1, 4, 7, 25] s κ := go_rg rg6_5 s κ
attribute [go_sem] o6_5
theorem gg6_6 (s : St) (κ : Ex × St → Option ρ) : go P hints hint6 (r6 6) s κ = goL P call hint6 o6_6 [4, 5] s κ := go_rg rg6_6 s κ
attribute [go_sem] o6_6
theorem gg6_7 (s : St) (κ : Ex × St → Option ρ) : go P hints hint6 (r6 7) s κ = goL P call hint6 o6_7 [4, 5] s κ := go_rg rg6_7 s κ
attribute [go_sem] o6_7
theorem gg6_8 (s : St) (κ : Ex × St → Option ρ) : go P hints hint6 (r6 8) s κ = goL P call hint6 o6_8 [0, 1, 4, 8, 9, 10] s κ := go_rg rg6_8 s κ
attribute [go_sem] o6_8
theorem gg6_9 (s : St) (κ : Ex × St → Option ρ) : go P hints hint6 (r6 9) s κ = goL P call hint6 o6_9 [4, 5] s κ := go_rg rg6_9 s κ
attribute [go_sem] o6_9
theorem gg8_0 (s : St) (κ : Ex × St → Option ρ) : go P hints hint8 (r8 0) s κ = goL P call hint8 o8_0 [0] s κ := go_rg rg8_0 s κ
attribute [go_sem] o8_0
theorem gg8_1 (s : St) (κ : Ex × St → Option ρ) : go P hints hint8 (r8 1) s κ = goL P call hint8 o8_1 [0, 5, 6, 7] s κ := go_rg rg8_1 s κ
attribute [go_sem] o8_1
theorem gg8_2 (s : St) (κ : Ex × St → Option ρ) : go P hints hint8 (r8 2) s κ = goL P call hint8 o8_2 [0, 5, 6, 7, 8] s κ := go_rg rg8_2 s κ
attribute [go_sem] o8_2
theorem gg8_3 (s : St) (κ : Ex × St → Option ρ) : go P hints hint8 (r8 3) s κ = goL P call hint8 o8_3 [0, 4, 5, 6, 7] s κ := go_rg rg8_3 s κ
attribute [go_sem] o8_3
theorem gg8_4 (s : St) (κ : Ex × St → Option ρ) : go P hints hint8 (r8 4) s κ = goL P call hint8 o8_4 [0, 4, 5, 6, 7, 14] s κ := go_rg rg8_4 s κ
attribute [go_sem] o8_4
theorem gg8_5 (s : St) (κ : Ex × St → Option ρ) : go P hints hint8 (r8 5) s κ = goL P call hint8 o8_5 [2] s κ := go_rg rg8_5 s κ
attribute [go_sem] o8_5
theorem gg8_6 (s : St) (κ : Ex × St → Option ρ) : go P hints hint8 (r8 6) s κ = goL P call hint8 o8_6 [0, 5, 6, 7] s κ := go_rg rg8_6 s κ
attribute [go_sem] o8_6
theorem gg8_7 (s : St) (κ : Ex × St → Option ρ) : go P hints hint8 (r8 7) s κ = goL P call hint8 o8_7 [2] s κ := go_rg rg8_7 s κ
attribute [go_sem] o8_7
theorem gg12_0 (s : St) (κ : Ex × St → Option ρ) : go P hints hint12 (r12 0) s κ = goL P call hint12 o12_0 [0, 1, 4] s κ := go_rg rg12_0 s κ
attribute [go_sem] o12_0
theorem gg12_1 (s : St) (κ : Ex × St → Option ρ) : go P hints hint12 (r12 1) s κ = goL P call hint12 o12_1 [0, 1, 4, 6] s κ := go_rg rg12_1 s κ
attribute [go_sem] o12_1
theorem gg12_2 (s : St) (κ : Ex × St → Option ρ) : go P hints hint12 (r12 2) s κ = goL P call hint12 o12_2 [0, 1, 4, 6, 15] s κ := go_rg rg12_2 s κ
attribute [go_sem] o12_2
theorem gg12_3 (s : St) (κ : Ex × St → Option ρ) : go P hints hint12 (r12 3) s κ = goL P call hint12 o12_3 [0, 1, 4, 6] s κ := go_rg rg12_3 s κ
attribute [go_sem] o12_3
theorem gg12_4 (s : St) (κ : Ex × St → Option ρ) : go P hints hint12 (r12 4) s κ = goL P call hint12 o12_4 [0, 1, 4, 6, 7] s κ := go_rg rg12_4 s κ
attribute [go_sem] o12_4
theorem gg12_5 (s : St) (κ : Ex × St → Option ρ) : go P hints hint12 (r12 5) s κ = goL P call hint12 o12_5 [0, 1, 4, 6, 7, 8] s κ := go_rg rg12_5 s κ
attribute [go_sem] o12_5
theorem gg12_6 (s : St) (κ : Ex × St → Option ρ) : go P hints hint12 (r12 6) s κ = goL P call hint12 o12_6 [0, 1, 4, 6, 7, 8, 9] s κ := go_rg rg12_6 s κ
attribute [go_sem] o12_6
theorem gg12_7 (s : St) (κ : Ex × St → Option ρ) : go P hints hint12 (r12 7) s κ = goL P call hint12 o12_7 [0, 1, 4, 6, 7, 8, 9, 20] s κ := go_rg rg12_7 s κ
attribute [go_sem] o12_7
theorem gg12_9 (s : St) (κ : Ex × St → Option ρ) : go P hints hint12 (r12 9) s κ = goL P call hint12 o12_9 [0, 1, 4, 6, 7, 8, 9] s κ := go_rg rg12_9 s κ
attribute [go_sem] o12_9
theorem gg12_8 (s : St) (κ : Ex × St → Option ρ) : go P hints hint12 (r12 8) s κ = goL P call hint12 o12_8 [0, 1, 4, 6, 7, 8, 9] s κ := go_rg rg12_8 s κ
attribute [go_sem] o12_8
theorem gg12_10 (s : St) (κ : Ex × St → Option ρ) : go P hints hint12 (r12 10) s κ = goL P call hint12 o12_10 [0, 1, 4, 6, 33] s κ := go_rg rg12_10 s κ
attribute [go_sem] o12_10
theorem gg12_11 (s : St) (κ : Ex × St → Option ρ) : go P hints hint12 (r12 11) s κ = goL P call hint12 o12_11 [4, 5] s κ := go_rg rg12_11 s κ
attribute [go_sem] o12_11
theorem gg12_12 (s : St) (κ : Ex × St → Option ρ) : go P hints hint12 (r12 12) s κ = goL P call hint12 o12_12 [0, 1, 4, 41] s κ := go_rg rg12_12 s κ
attribute [go_sem] o12_12
theorem gg12_13 (s : St) (κ : Ex × St → Option ρ) : go P hints hint12 (r12 13) s κ = goL P call hint12 o12_13 [4, 5] s κ := go_rg rg12_13 s κ
attribute [go_sem] o12_13
theorem gg12_14 (s : St) (κ : Ex × St → Option ρ) : go P hints hint12 (r12 14) s κ = goL P call hint12 o12_14 [1, 4, 43] s κ := go_rg rg12_14 s κ
attribute [go_sem] o12_14
theorem gg12_15 (s : St) (κ : Ex × St → Option ρ) : go P hints hint12 (r12 15) s κ = goL P call hint12 o12_15 [1, 4, 43, 44] s κ := go_rg rg12_15 s κ
attribute [go_sem] o12_15
theorem gg12_16 (s : St) (κ : Ex × St → Option ρ) : go P hints hint12 (r12 16) s κ = goL P call hint12 o12_16 [4, 5] s κ := go_rg rg12_16 s κ
attribute [go_sem] o12_16
theorem gg12_17 (s : St) (κ : Ex × St → Option ρ) : go P hints hint12 (r12 17) s κ = goL P call hint12 o12_17 [1, 4, 43, 48] s κ := go_rg rg12_17 s κ
attribute [go_sem] o12_17
theorem gg12_18 (s : St) (κ : Ex × St → Option ρ) : go P hints hint12 (r12 18) s κ = goL P call hint12 o12_18 [4, 5] s κ := go_rg rg12_18 s κ
attribute [go_sem] o12_18
theorem gg12_19 (s : St) (κ : Ex × St → Option ρ) : go P hints hint12 (r12 19) s κ = goL P call hint12 o12_19 [1, 4, 43, 52] s κ := go_rg rg12_19 s κ
attribute [go_sem] o12_19
theorem gg12_20 (s : St) (κ : Ex × St → Option ρ) : go P hints hint12 (r12 20) s κ = goL P call hint12 o12_20 [4, 5] s κ := go_rg rg12_20 s κ
attribute [go_sem] o12_20
theorem gg12_21 (s : St) (κ : Ex × St → Option ρ) : go P hints hint12 (r12 21) s κ = goL P call hint12 o12_21 [1, 4, 56] s κ := go_rg rg12_21 s κ
attribute [go_sem] o12_21
theorem gg12_22 (s : St) (κ : Ex × St → Option ρ) : go P hints hint12 (r12 22) s κ = goL P call hint12 o12_22 [4, 5] s κ := go_rg rg12_22 s κ
attribute [go_sem] o12_22
theorem gg12_23 (s : St) (κ : Ex × St → Option ρ) : go P hints hint12 (r12 23) s κ = goL P call hint12 o12_23 [4, 5] s κ := go_rg rg12_23 s κ
attribute [go_sem] o12_23
theorem gg13_0 (s : St) (κ : Ex × St → Option ρ) : go P hints hint13 (r13 0) s κ = goL P call hint13 o13_0 [0] s κ := go_rg rg13_0 s κ
attribute [go_sem] o13_0
theorem gg13_1 (s : St) (κ : Ex × St → Option ρ) : go P hints hint13 (r13 1) s κ = goL P call hint13 o13_1 [0, 3] s κ := go_rg rg13_1 s κ
attribute [go_sem] o13_1
theorem gg13_2 (s : St) (κ : Ex × St → Option ρ) : go P hints hint13 (r13 2) s κ = goL P call hint13 o13_2 [0, 3, 4] s κ := go_rg rg13_2 s κ
attribute [go_sem] o13_2
theorem gg13_3 (s : St) (κ : Ex × St → Option ρ) : go P hints hint13 (r13 3) s κ = goL P call hint13 o13_3 [3, 4, 9] s κ := go_rg rg13_3 s κ
attribute [go_sem] o13_3
theorem gg13_4 (s : St) (κ : Ex × St → Option ρ) : go P hints hint13 (r13 4) s κ = goL P call hint13 o13_4 [3, 4, 9, 10] s κ := go_rg rg13_4 s κ
attribute [go_sem] o13_4
theorem gg13_5 (s : St) (κ : Ex × St → Option ρ) : go P hints hint13 (r13 5) s κ = goL P call hint13 o13_5 [2] s κ := go_rg rg13_5 s κ
attribute [go_sem] o13_5
theorem gg13_6 (s : St) (κ : Ex × St → Option ρ) : go P hints hint13 (r13 6) s κ = goL P call hint13 o13_6 [4, 9, 17] s κ := go_rg rg13_6 s κ
attribute [go_sem] o13_6
theorem gg13_7 (s : St) (κ : Ex × St → Option ρ) : go P hints hint13 (r13 7) s κ = goL P call hint13 o13_7 [2] s κ := go_rg rg13_7 s κ
attribute [go_sem] o13_7
theorem gg13_8 (s : St) (κ : Ex × St → Option ρ) : go P hints hint13 (r13 8) s κ = goL P call hint13 o13_8 [4, 9, 25] s κ := go_rg rg13_8 s κ
attribute [go_sem] o13_8
theorem gg13_9 (s : St) (κ : Ex × St → Option ρ) : go P hints hint13 (r13 9) s κ = goL P call hint13 o13_9 [2] s κ := go_rg rg13_9 s κ
attribute [go_sem] o13_9
theorem gg13_10 (s : St) (κ : Ex × St → Option ρ) : go P hints hint13 (r13 10) s κ = goL P call hint13 o13_10 [4, 9, 33] s κ := go_rg rg13_10 s κ
attribute [go_sem] o13_10
theorem gg13_11 (s : St) (κ : Ex × St → Option ρ) : go P hints hint13 (r13 11) s κ = goL P call hint13 o13_11 [2] s κ := go_rg rg13_11 s κ
attribute [go_sem] o13_11
theorem gg13_12 (s : St) (κ : Ex × St → Option ρ) : go P hints hint13 (r13 12) s κ = goL P call hint13 o13_12 [4, 40] s κ := go_rg rg13_12 s κ
attribute [go_sem] o13_12
theorem gg13_13 (s : St) (κ : Ex × St → Option ρ) : go P hints hint13 (r13 13) s κ = goL P call hint13 o13_13 [2] s κ := go_rg rg13_13 s κ
attribute [go_sem] o13_13
theorem gg13_14 (s : St) (κ : Ex × St → Option ρ) : go P hints hint13 (r13 14) s κ = goL P call hint13 o13_14 [2] s κ := go_rg rg13_14 s κ
attribute [go_sem] o13_14
@[go_sem] theorem gb3_0 (s : St) (κ : Ex × St → Option ρ) : go P hints hint3 (loopBody L3_0) s κ = go P hints hint3 (.seq (.seq (r3 10) (.cond (.tmp 39) .skip (.exit 0))) (.seq (.block 1 (.seq (r3 12) (.cond (.tmp 60) (.seq (r3 13) .ret) .skip))) (r3 11))) s κ := rfl
@[go_sem] theorem gb4_0 (s : St) (κ : Ex × St → Option ρ) : go P hints hint4 (loopBody L4_0) s κ = go P hints hint4 (.seq (.seq (r4 9) (.cond (.tmp 57) .skip (.exit 0))) (.seq (.block 1 (.seq (r4 11) (.cond (.tmp 69) (.seq (r4 12) .ret) .skip))) (r4 10))) s κ := rfl
@[go_sem] theorem gb6_0 (s : St) (κ : Ex × St → Option ρ) : go P hints hint6 (loopBody L6_0) s κ = go P hints hint6 (.seq (r6 2) (.seq (.cond (.tmp 11) .skip (.exit 0)) (.seq (.block 1 (.seq (r6 3) (.seq (.seq (r6 4) (.cond (.tmp 17) (.exit 1) .skip)) (.seq (.seq (r6 5) (.cond (.tmp 25) (.seq (r6 6) .ret) .skip)) (.seq (r6 7) .ret))))) (r6 8)))) s κ := rfl
@[go_sem] theorem gb8_0 (s : St) (κ : Ex × St → Option ρ) : go P hints hint8 (loopBody L8_0) s κ = go P hints hint8 (.seq (r8 2) (.seq (.cond (.tmp 8) .skip (.exit 0)) (.seq (.block 1 (.seq (r8 3) (.seq (r8 4) (.cond (.tmp 14) (.seq (r8 5) .ret) .skip)))) (r8 6)))) s κ := rfl
@[go_sem] theorem gb12_0 (s : St) (κ : Ex × St → Option ρ) : go P hints hint12 (loopBody L12_0) s κ = go P hints hint12 (.seq (.seq (r12 7) (.cond (.tmp 20) .skip (.exit 0))) (.seq (.block 1 (r12 9)) (r12 8))) s κ := rfl
theorem ge3 (ds : List D) (H : List Ob) (hl : ds.length = 2) : call 3 ds H = go P hints hint3 (.seq (r3 0) (.seq (r3 1) (.seq (.seq (r3 2) (.cond (.tmp 14) (.seq (r3 3) .ret) .skip)) (.seq (r3 4) (.seq (r3 5) (.seq (.seq (r3 6) (.cond (.tmp 28) (.seq (r3 7) .ret) .skip)) (.seq (r3 8) (.seq (.seq (r3 9) (.block 0 L3_0)) (.seq (r3 14) .ret))))))))) (enter ds H) (leaveR P false [.tmp 4] H.length) := eq3 ds H hl
theorem ge4 (ds : List D) (H : List Ob) (hl : ds.length = 2) : call 4 ds H = go P hints hint4 (.seq (r4 0) (.seq (.seq (r4 1) (.cond (.tmp 14) (.seq (r4 2) .ret) .skip)) (.seq (r4 3) (.seq (r4 4) (.seq (r4 5) (.seq (.seq (r4 6) (.cond (.tmp 53) (.seq (r4 7) .ret) .skip)) (.seq (.seq (r4 8) (.block 0 L4_0)) (.seq (r4 13) .ret)))))))) (enter ds H) (leaveR P false [.tmp 4] H.length) := eq4 ds H hl
theorem ge6 (ds : List D) (H : List Ob) (hl : ds.length = 2) : call 6 ds H = go P hints hint6 (.seq (r6 0) (.seq (.seq (r6 1) (.block 0 L6_0)) (.seq (r6 9) .ret))) (enter ds H) (leaveR P false [.cell 4 30, .tmp 5] H.length) := eq6 ds H hl
theorem ge8 (ds : List D) (H : List Ob) (hl : ds.length = 1) : call 8 ds H = go P hints hint8 (.seq (r8 0) (.seq (.seq (r8 1) (.block 0 L8_0)) (.seq (r8 7) .ret))) (enter ds H) (leaveR P false [.tmp 2] H.length) := eq8 ds H hl
theorem ge12 (ds : List D) (H : List Ob) (hl : ds.length = 2) : call 12 ds H = go P hints hint12 (.seq (r12 0) (.seq (r12 1) (.seq (.seq (r12 2) (.cond (.tmp 15) (r12 3) .skip)) (.seq (r12 4) (.seq (r12 5) (.seq (.seq (r12 6) (.block 0 L12_0)) (.seq (.seq (r12 10) (.cond (.tmp 33) (.seq (r12 11) .ret) .skip)) (.seq (.seq (r12 12) (.cond (.tmp 41) (.seq (r12 13) .ret) .skip)) (.seq (.seq (r12 14) (.block 2 (.seq (r12 15) (.cond (.tmp 44) (.seq (r12 16) .ret) (.seq (r12 17) (.cond (.tmp 48) (.seq (r12 18) .ret) (.seq (r12 19) (.cond (.tmp 52) (.seq (r12 20) .ret) (.seq (r12 21) (.cond (.tmp 56) (.seq (r12 22) .ret) .skip)))))))))) (.seq (r12 23) .ret)))))))))) (enter ds H) (leaveR P false [.cell 4 30, .tmp 5] H.length) := eq12 ds H hl
theorem ge13 (ds : List D) (H : List Ob) (hl : ds.length = 1) : call 13 ds H = go P hints hint13 (.seq (r13 0) (.seq (r13 1) (.seq (r13 2) (.seq (.seq (r13 3) (.block 0 (.seq (r13 4) (.cond (.tmp 10) (.seq (r13 5) .ret) (.seq (r13 6) (.cond (.tmp 17) (.seq (r13 7) .ret) (.seq (r13 8) (.cond (.tmp 25) (.seq (r13 9) .ret) (.seq (r13 10) (.cond (.tmp 33) (.seq (r13 11) .ret) (.seq (r13 12) (.cond (.tmp 40) (.seq (r13 13) .ret) .skip)))))))))))) (.seq (r13 14) .ret))))) (enter ds H) (leaveR P false [.tmp 2] H.length) := eq13 ds H hl
end Go.Lib
/- Closed calls of the library's functions; one turn after another. -/
namespace Go.Lib
open Go Go.Am Go.Proofs
set_option linter.unusedSimpArgs false
set_option linter.unusedVariables false
set_option maxRecDepth 20000
theorem cl18 : call 18 [] [] = some ([.d (.sl false [.agg [.str [97, 98, 112], .int .i64 (1), .fn (.func 42) [] [], .sl false [.sl false [.agg [.int .i64 (3), .int .i64 (0)], .agg [.int .i64 (11), .int .i64 (0)], .agg [.int .i64 (12), .int .i64 (0)]], .sl false [.agg [.int .i64 (3), .int .i64 (1)], .agg [.int .i64 (3), .int .i64 (0)], .agg [.int .i64 (11), .int .i64 (0)], .agg [.int .i64 (7), .int .i64 (0)], .agg [.int .i64 (12), .int .i64 (0)]], .sl false [.agg [.int .i64 (3), .int .i64 (0)], .agg [.int .i64 (4), .int .i64 (0)], .agg [.int .i64 (12), .int .i64 (0)]]]], .agg [.str [109, 117, 116, 101, 120], .int .i64 (2), .fn (.func 43) [] [], .sl false [.sl false [.agg [.int .i64 (3), .int .i64 (1)], .agg [.int .i64 (4), .int .i64 (0)], .agg [.int .i64 (12), .int .i64 (0)]], .sl false [.agg [.int .i64 (3), .int .i64 (0)], .agg [.int .i64 (11), .int .i64 (0)], .agg [.int .i64 (12), .int .i64 (0)]], .sl false [.agg [.int .i64 (3), .int .i64 (0)], .agg [.int .i64 (11), .int .i64 (0)]]]], .agg [.str [112, 97, 105, 114], .int .i64 (1), .fn (.func 44) [] [], .sl false [.sl false [.agg [.int .i64 (3), .int .i64 (1)], .agg [.int .i64 (11), .int .i64 (0)], .agg [.int .i64 (12), .int .i64 (0)]], .sl false [.agg [.int .i64 (3), .int .i64 (0)], .agg [.int .i64 (3), .int .i64 (1)], .agg [.int .i64 (11), .int .i64 (0)], .agg [.int .i64 (7), .int .i64 (0)], .agg [.int .i64 (12), .int .i64 (0)]], .sl false [.agg [.int .i64 (3), .int .i64 (1)], .agg [.int .i64 (4), .int .i64 (0)], .agg [.int .i64 (12), .int .i64 (0)], .agg [.int .i64 (11), .int .i64 (0)]]]], .agg [.str [114, 105, 110, 103], .int .i64 (2), .fn (.func 45) [] [], .sl false [.sl false [.agg [.int .i64 (3), .int .i64 (0)], .agg [.int .i64 (11), .int .i64 (0)], .agg [.int .i64 (12), .int .i64 (0)]], .sl false [.agg [.int .i64 (3), .int .i64 (0)], .agg [.int .i64 (3), .int .i64 (1)], .agg [.int .i64 (11), .int .i64 (0)], .agg [.int .i64 (7), .int .i64 (0)], .agg [.int .i64 (12), .int .i64 (0)]], .sl false [.agg [.int .i64 (3), .int .i64 (1)], .agg [.int .i64 (12), .int .i64 (0)]]]], .agg [.str [116, 111, 115, 115], .int .i64 (1), .fn (.func 46) [] [], .sl false [.sl false [.agg [.int .i64 (3), .int .i64 (0)], .agg [.int .i64 (11), .int .i64 (0)], .agg [.int .i64 (12), .int .i64 (0)]], .sl false [.agg [.int .i64 (3), .int .i64 (1)], .agg [.int .i64 (11), .int .i64 (0)]], .sl false [.agg [.int .i64 (3), .int .i64 (1)], .agg [.int .i64 (4), .int .i64 (0)], .agg [.int .i64 (12), .int .i64 (0)]]]]])], []) := callX_iff.2 ⟨60, by kernel_rfl⟩
theorem cl5 : call 5 [] [] = some ([.d (.sl false [.str [97, 98, 112], .str [109, 117, 116, 101, 120], .str [112, 97, 105, 114], .str [114, 105, 110, 103], .str [116, 111, 115, 115]])], []) := callX_iff.2 ⟨60, by kernel_rfl⟩
theorem cl7 : call 7 [] [] = some ([.d (.bool true)], []) := callX_iff.2 ⟨60, by kernel_rfl⟩
theorem cl16 : call 16 [] [] = some ([.d (.sl false [.str [97, 98, 112], .str [109, 117, 116, 101, 120], .str [112, 97, 105, 114], .str [114, 105, 110, 103], .str [116, 111, 115, 115]])], []) := callX_iff.2 ⟨60, by kernel_rfl⟩
attribute [go_sem] cl18 cl5 cl7 cl16
end Go.Lib
/- Loops, gone through turn by turn. -/
namespace Go.Am
open Go
section
variable {P : Program} {hints : FuncId → Hint} {h : Hint} {ρ : Type}
noncomputable def kLoop (P : Program) (hints : FuncId → Hint) (h : Hint) (L : Code) (κ : Ex × St → Option ρ) : Ex × St → Option ρ := fun r => (thenX P hints h L r).bind κ
@[congr] theorem kLoop_congr {L : Code} {r r' : Ex × St} {κ : Ex × St → Option ρ} (e : r = r') : kLoop P hints h L κ r = kLoop P hints h L κ r' := by rw [e]
@[go_sem] theorem kLoop_n {L : Code} {s : St} {κ : Ex × St → Option ρ} : kLoop P hints h L κ (.normal, s) = go P hints h L s κ := rfl
@[go_sem] theorem kLoop_r {L : Code} {s : St} {κ : Ex × St → Option ρ} : kLoop P hints h L κ (.ret, s) = κ (.ret, s) := rfl
@[go_sem] theorem kLoop_e {L : Code} {s : St} {id : Nat} {κ : Ex × St → Option ρ} : kLoop P hints h L κ (.exit id, s) = κ (.exit id, s) := rfl
/-- one turn -/
theorem go_turn {a : Code} (s : St) (κ : Ex × St → Option ρ) : go P hints h (.loop a) s κ = go P hints h (loopBody (.loop a)) s (kLoop P hints h (.loop a) κ) := by
  simp only [go, codeX_loop, loopBody, Option.bind_assoc]; rfl
end
end Go.Am
/- Slicing: what is cut out of data and of trees. -/
namespace Go.Am
open Go
set_option linter.unusedSimpArgs false
set_option linter.unusedVariables false
section
variable {P : Program} {t : TypeId} {lo hi : Option SV} {k : Wk} {b : Bool} {xs : List D} {r : Root} {p : Path} {o len : Nat}
@[go_sem] theorem bound_n {d : Nat} : boundE none d = some d := rfl
@[go_sem] theorem bound_i {q : IntKind} {n : Int} {d : Nat} : boundE (some (.d (.int q n))) d = if 0 ≤ n then some n.toNat else none := rfl
@[go_sem] theorem slice_sl : sliceE P t (.d (.sl b xs)) lo hi none k = (elemOf P t).bind fun e => (boundE lo 0).bind fun l => (boundE hi xs.length).bind fun h => if l ≤ h ∧ h ≤ xs.length ∧ (P.info? e).isSome ∧ headD (P.cellsOf e) (win xs l (h - l)) then some (.d (.sl b (win xs l (h - l)))) else none := by
  unfold sliceE elemOf
  cases P.underlying t with
  | none => rfl
  | some d => cases d <;> rfl
@[go_sem] theorem slice_nils : sliceE P t (.d .nils) lo hi none k = (elemOf P t).bind fun e => (boundE lo 0).bind fun l => (boundE hi 0).bind fun h => if l = 0 ∧ h = 0 ∧ (P.info? e).isSome then some (.d .nils) else none := by
  unfold sliceE elemOf
  cases P.underlying t with
  | none => rfl
  | some d => cases d <;> rfl
@[go_sem] theorem slice_bor : sliceE P t (.bor r p o len) lo hi none k = (elemOf P t).bind fun e => (boundE lo 0).bind fun l => (boundE hi len).bind fun h => if l ≤ h ∧ h ≤ len ∧ (P.info? e).isSome ∧ winOk (P.cellsOf e) r p (o + l) (h - l) k then some (.bor r p (o + l) (h - l)) else none := by
  unfold sliceE elemOf
  cases P.underlying t with
  | none => rfl
  | some d => cases d <;> rfl
@[go_sem] theorem slice_str {s : List UInt8} : sliceE P t (.d (.str s)) lo hi none k = match P.underlying t with | some .string => (boundE lo 0).bind fun l => (boundE hi s.length).bind fun h => if l ≤ h ∧ h ≤ s.length then some (.d (.str (win s l (h - l)))) else none | _ => none := by
  unfold sliceE
  cases P.underlying t with
  | none => rfl
  | some d => cases d <;> rfl
@[go_sem] theorem slice3_sl {m : SV} : sliceE P t (.d (.sl b xs)) lo hi (some m) k = (elemOf P t).bind fun e => (boundE lo 0).bind fun l => (boundE hi xs.length).bind fun h => (boundE (some m) 0).bind fun m => if l ≤ h ∧ h = m ∧ h ≤ xs.length ∧ hi.isSome ∧ (P.info? e).isSome ∧ headD (P.cellsOf e) (win xs l (h - l)) then some (.clip b (win xs l (h - l))) else none := by
  unfold sliceE elemOf
  cases P.underlying t with
  | none => rfl
  | some d => cases d <;> rfl
@[go_sem] theorem slice3_nils {m : SV} : sliceE P t (.d .nils) lo hi (some m) k = (elemOf P t).bind fun e => (boundE lo 0).bind fun l => (boundE hi 0).bind fun h => (boundE (some m) 0).bind fun m => if l = 0 ∧ h = 0 ∧ m = 0 ∧ hi.isSome ∧ (P.info? e).isSome then some (.d .nils) else none := by
  unfold sliceE elemOf
  cases P.underlying t with
  | none => rfl
  | some d => cases d <;> rfl
@[go_sem] theorem slice3_bor {m : SV} : sliceE P t (.bor r p o len) lo hi (some m) k = (elemOf P t).bind fun e => (boundE lo 0).bind fun l => (boundE hi len).bind fun h => (boundE (some m) 0).bind fun m => if l ≤ h ∧ h ≤ m ∧ m ≤ len ∧ hi.isSome ∧ (P.info? e).isSome ∧ winOk (P.cellsOf e) r p (o + l) (h - l) k then some (.bor r p (o + l) (h - l)) else none := by
  unfold sliceE elemOf
  cases P.underlying t with
  | none => rfl
  | some d => cases d <;> rfl
@[go_sem] theorem winOk_eq {n o m : Nat} : winOk n r p o m k = (((k.get r).bind fun c => c.at p).any fun nd => match nd with | .own es => headT n (win es o m) | _ => false) := by
  unfold winOk
  cases (k.get r).bind fun c => c.at p with
  | none => rfl
  | some x => cases x <;> rfl
theorem headT_tl {α : Type} {f : α → D} {l : List α} {n : Nat} (h : ∀ x, (f x).nc = n) : headT n (tl f l) = true := by
  cases l with
  | nil => rfl
  | cons x l => simp [tl, headT, T.nc, h]
theorem headD_map {α : Type} {f : α → D} {l : List α} {n : Nat} (h : ∀ x, (f x).nc = n) : headD n (l.map f) = true := by
  cases l with
  | nil => rfl
  | cons x l => simp [headD, h]
@[go_sem] theorem headT_nil {n : Nat} : headT n [] = true := rfl
@[go_sem] theorem headD_nil {n : Nat} : headD n [] = true := rfl
@[go_sem] theorem headT_tlo {α : Type} {f : α → D} {l : List (List α)} : headT 1 (tlo f l) = true := by cases l <;> rfl
@[go_sem] theorem headT_I {l : List Int} {q : IntKind} : headT 1 (tl (eK q) l) = true := headT_tl fun _ => rfl
@[go_sem] theorem headT_I64 {l : List Int} : headT 1 (tl eI l) = true := headT_tl fun _ => rfl
@[go_sem] theorem headT_B {l : List Bool} : headT 1 (tl eB l) = true := headT_tl fun _ => rfl
@[go_sem] theorem headT_S {l : List (List UInt8)} : headT 1 (tl eS l) = true := headT_tl fun _ => rfl
@[go_sem] theorem headD_I {l : List Int} {q : IntKind} : headD 1 (l.map (eK q)) = true := headD_map fun _ => rfl
@[go_sem] theorem headD_I64 {l : List Int} : headD 1 (l.map eI) = true := headD_map fun _ => rfl
@[go_sem] theorem headD_B {l : List Bool} : headD 1 (l.map eB) = true := headD_map fun _ => rfl
@[go_sem] theorem headD_S {l : List (List UInt8)} : headD 1 (l.map eS) = true := headD_map fun _ => rfl
@[go_sem] theorem tlo_drop {α : Type} {f : α → D} {l : List (List α)} {n : Nat} : (tlo f l).drop n = tlo f (l.drop n) := by simp [tlo, List.map_drop]
@[go_sem] theorem map_take' {α β : Type} {f : α → β} {l : List α} {n : Nat} : (l.map f).take n = (l.take n).map f := by rw [List.map_take]
@[go_sem] theorem map_drop' {α β : Type} {f : α → β} {l : List α} {n : Nat} : (l.map f).drop n = (l.drop n).map f := by rw [List.map_drop]
end
@[go_sem] theorem val_strC {s : St} {b : ByteArray} : s.val (.const (.string b)) = .d (.str b.data.toList) := rfl
end Go.Am
/- What the library answers of what it has not. -/
namespace Go.Lib
open Go Go.Am Go.Proofs
set_option linter.unusedSimpArgs false
set_option linter.unusedVariables false
set_option maxRecDepth 20000
variable {ρ : Type}
theorem wr0 : IntKind.i64.wrap 0 = 0 := by decide
theorem wr1 : IntKind.i64.wrap 1 = 1 := by decide
theorem wr2 : IntKind.i64.wrap 2 = 2 := by decide
theorem wr3 : IntKind.i64.wrap 3 = 3 := by decide
theorem wr4 : IntKind.i64.wrap 4 = 4 := by decide
theorem wr5 : IntKind.i64.wrap 5 = 5 := by decide
theorem cl31a : call 31 [.int .i64 (0)] [] = some ([.d (.sl false [.agg [.int .i64 (3), .int .i64 (0)]])], []) := callX_iff.2 ⟨60, by kernel_rfl⟩
theorem cl31b : call 31 [.int .i64 (1)] [] = some ([.d (.sl false [.agg [.int .i64 (3), .int .i64 (1)]])], []) := callX_iff.2 ⟨60, by kernel_rfl⟩
theorem cl30a : call 30 [.int .i64 (4), .sl false [.agg [.int .i64 (3), .int .i64 (0)]]] [] = some ([.d (.sl false [.agg [.int .i64 (3), .int .i64 (0)], .agg [.int .i64 (4), .int .i64 (0)]])], []) := callX_iff.2 ⟨60, by kernel_rfl⟩
theorem cl30b : call 30 [.int .i64 (4), .sl false [.agg [.int .i64 (3), .int .i64 (1)]]] [] = some ([.d (.sl false [.agg [.int .i64 (3), .int .i64 (1)], .agg [.int .i64 (4), .int .i64 (0)]])], []) := callX_iff.2 ⟨60, by kernel_rfl⟩
attribute [go_sem] cl31a cl31b cl30a cl30b
theorem lk0 : lockA [] = [] := rfl
attribute [go_sem] lk0 wr0 wr1 wr2 wr3 wr4 wr5
theorem gl6 (s : St) (κ : Ex × St → Option ρ) : go P hints hint6 L6_0 s κ = go P hints hint6 (loopBody L6_0) s (kLoop P hints hint6 L6_0 κ) := go_turn s κ
theorem gl8 (s : St) (κ : Ex × St → Option ρ) : go P hints hint8 L8_0 s κ = go P hints hint8 (loopBody L8_0) s (kLoop P hints hint8 L8_0 κ) := go_turn s κ
theorem gl12 (s : St) (κ : Ex × St → Option ρ) : go P hints hint12 L12_0 s κ = go P hints hint12 (loopBody L12_0) s (kLoop P hints hint12 L12_0 κ) := go_turn s κ
theorem m6 (name : List UInt8) (n : Int) (h1 : name ≠ [97, 98, 112]) (h2 : name ≠ [109, 117, 116, 101, 120]) (h3 : name ≠ [112, 97, 105, 114]) (h4 : name ≠ [114, 105, 110, 103]) (h5 : name ≠ [116, 111, 115, 115]) : call 6 [.str name, .int .i64 n] [] = some ([.d (.agg [.sl false [], .sl false [], .sl false [], .sl false [], .sl false []]), .d (.int .i64 6)], []) := by
  have g1 : ¬ [97, 98, 112] = name := fun h => h1 h.symm
  have g2 : ¬ [109, 117, 116, 101, 120] = name := fun h => h2 h.symm
  have g3 : ¬ [112, 97, 105, 114] = name := fun h => h3 h.symm
  have g4 : ¬ [114, 105, 110, 103] = name := fun h => h4 h.symm
  have g5 : ¬ [116, 111, 115, 115] = name := fun h => h5 h.symm
  simp -implicitDefEqProofs (maxSteps := 1000000) [go_sem, ge6, gg6_0, gg6_1, gg6_2, gg6_3, gg6_4, gg6_5, gg6_6, gg6_7, gg6_8, gg6_9, gl6, h1, g1, h2, g2, h3, g3, h4, g4, h5, g5]
theorem m6_abp (n : Int) (h : n < 1 ∨ 3 < n) : call 6 [.str [97, 98, 112], .int .i64 n] [] = some ([.d (.agg [.sl false [], .sl false [], .sl false [], .sl false [], .sl false []]), .d (.int .i64 10)], []) := by
  simp -implicitDefEqProofs (maxSteps := 1000000) [go_sem, ge6, gg6_0, gg6_1, gg6_2, gg6_3, gg6_4, gg6_5, gg6_6, gg6_7, gg6_8, gg6_9, gl6, h]
  try (intro a b; exfalso; omega)
theorem m6_mutex (n : Int) (h : n < 2 ∨ 3 < n) : call 6 [.str [109, 117, 116, 101, 120], .int .i64 n] [] = some ([.d (.agg [.sl false [], .sl false [], .sl false [], .sl false [], .sl false []]), .d (.int .i64 10)], []) := by
  simp -implicitDefEqProofs (maxSteps := 1000000) [go_sem, ge6, gg6_0, gg6_1, gg6_2, gg6_3, gg6_4, gg6_5, gg6_6, gg6_7, gg6_8, gg6_9, gl6, h]
  try (intro a b; exfalso; omega)
theorem m6_pair (n : Int) (h : n < 1 ∨ 3 < n) : call 6 [.str [112, 97, 105, 114], .int .i64 n] [] = some ([.d (.agg [.sl false [], .sl false [], .sl false [], .sl false [], .sl false []]), .d (.int .i64 10)], []) := by
  simp -implicitDefEqProofs (maxSteps := 1000000) [go_sem, ge6, gg6_0, gg6_1, gg6_2, gg6_3, gg6_4, gg6_5, gg6_6, gg6_7, gg6_8, gg6_9, gl6, h]
  try (intro a b; exfalso; omega)
theorem m6_ring (n : Int) (h : n < 2 ∨ 3 < n) : call 6 [.str [114, 105, 110, 103], .int .i64 n] [] = some ([.d (.agg [.sl false [], .sl false [], .sl false [], .sl false [], .sl false []]), .d (.int .i64 10)], []) := by
  simp -implicitDefEqProofs (maxSteps := 1000000) [go_sem, ge6, gg6_0, gg6_1, gg6_2, gg6_3, gg6_4, gg6_5, gg6_6, gg6_7, gg6_8, gg6_9, gl6, h]
  try (intro a b; exfalso; omega)
theorem m6_toss (n : Int) (h : n < 1 ∨ 3 < n) : call 6 [.str [116, 111, 115, 115], .int .i64 n] [] = some ([.d (.agg [.sl false [], .sl false [], .sl false [], .sl false [], .sl false []]), .d (.int .i64 10)], []) := by
  simp -implicitDefEqProofs (maxSteps := 1000000) [go_sem, ge6, gg6_0, gg6_1, gg6_2, gg6_3, gg6_4, gg6_5, gg6_6, gg6_7, gg6_8, gg6_9, gl6, h]
  try (intro a b; exfalso; omega)
theorem m12 (name : List UInt8) (n : Int) (h1 : name ≠ [97, 98, 112]) (h2 : name ≠ [109, 117, 116, 101, 120]) (h3 : name ≠ [112, 97, 105, 114]) (h4 : name ≠ [114, 105, 110, 103]) (h5 : name ≠ [116, 111, 115, 115]) : call 12 [.str name, .int .i64 n] [] = some ([.d (.agg [.sl false [], .sl false [], .sl false [], .sl false [], .sl false []]), .d (.int .i64 6)], []) := by
  have g1 : ¬ [97, 98, 112] = name := fun h => h1 h.symm
  have g2 : ¬ [109, 117, 116, 101, 120] = name := fun h => h2 h.symm
  have g3 : ¬ [112, 97, 105, 114] = name := fun h => h3 h.symm
  have g4 : ¬ [114, 105, 110, 103] = name := fun h => h4 h.symm
  have g5 : ¬ [116, 111, 115, 115] = name := fun h => h5 h.symm
  simp -implicitDefEqProofs (maxSteps := 1000000) [go_sem, ge12, gg12_0, gg12_1, gg12_2, gg12_3, gg12_4, gg12_5, gg12_6, gg12_7, gg12_9, gg12_8, gg12_10, gg12_11, gg12_12, gg12_13, gg12_14, gg12_15, gg12_16, gg12_17, gg12_18, gg12_19, gg12_20, gg12_21, gg12_22, gg12_23, gl12, h1, g1, h2, g2, h3, g3, h4, g4, h5, g5]
theorem m12_abp (n : Int) (h : n < 1 ∨ 3 < n) : call 12 [.str [97, 98, 112], .int .i64 n] [] = some ([.d (.agg [.sl false [], .sl false [], .sl false [], .sl false [], .sl false []]), .d (.int .i64 10)], []) := by
  simp -implicitDefEqProofs (maxSteps := 1000000) [go_sem, ge12, gg12_0, gg12_1, gg12_2, gg12_3, gg12_4, gg12_5, gg12_6, gg12_7, gg12_9, gg12_8, gg12_10, gg12_11, gg12_12, gg12_13, gg12_14, gg12_15, gg12_16, gg12_17, gg12_18, gg12_19, gg12_20, gg12_21, gg12_22, gg12_23, gl12, h]
  try (intro a b; exfalso; omega)
theorem m12_mutex (n : Int) (h : n < 2 ∨ 3 < n) : call 12 [.str [109, 117, 116, 101, 120], .int .i64 n] [] = some ([.d (.agg [.sl false [], .sl false [], .sl false [], .sl false [], .sl false []]), .d (.int .i64 10)], []) := by
  simp -implicitDefEqProofs (maxSteps := 1000000) [go_sem, ge12, gg12_0, gg12_1, gg12_2, gg12_3, gg12_4, gg12_5, gg12_6, gg12_7, gg12_9, gg12_8, gg12_10, gg12_11, gg12_12, gg12_13, gg12_14, gg12_15, gg12_16, gg12_17, gg12_18, gg12_19, gg12_20, gg12_21, gg12_22, gg12_23, gl12, h]
  try (intro a b; exfalso; omega)
theorem m12_pair (n : Int) (h : n < 1 ∨ 3 < n) : call 12 [.str [112, 97, 105, 114], .int .i64 n] [] = some ([.d (.agg [.sl false [], .sl false [], .sl false [], .sl false [], .sl false []]), .d (.int .i64 10)], []) := by
  simp -implicitDefEqProofs (maxSteps := 1000000) [go_sem, ge12, gg12_0, gg12_1, gg12_2, gg12_3, gg12_4, gg12_5, gg12_6, gg12_7, gg12_9, gg12_8, gg12_10, gg12_11, gg12_12, gg12_13, gg12_14, gg12_15, gg12_16, gg12_17, gg12_18, gg12_19, gg12_20, gg12_21, gg12_22, gg12_23, gl12, h]
  try (intro a b; exfalso; omega)
theorem m12_ring (n : Int) (h : n < 2 ∨ 3 < n) : call 12 [.str [114, 105, 110, 103], .int .i64 n] [] = some ([.d (.agg [.sl false [], .sl false [], .sl false [], .sl false [], .sl false []]), .d (.int .i64 10)], []) := by
  simp -implicitDefEqProofs (maxSteps := 1000000) [go_sem, ge12, gg12_0, gg12_1, gg12_2, gg12_3, gg12_4, gg12_5, gg12_6, gg12_7, gg12_9, gg12_8, gg12_10, gg12_11, gg12_12, gg12_13, gg12_14, gg12_15, gg12_16, gg12_17, gg12_18, gg12_19, gg12_20, gg12_21, gg12_22, gg12_23, gl12, h]
  try (intro a b; exfalso; omega)
theorem m12_toss (n : Int) (h : n < 1 ∨ 3 < n) : call 12 [.str [116, 111, 115, 115], .int .i64 n] [] = some ([.d (.agg [.sl false [], .sl false [], .sl false [], .sl false [], .sl false []]), .d (.int .i64 10)], []) := by
  simp -implicitDefEqProofs (maxSteps := 1000000) [go_sem, ge12, gg12_0, gg12_1, gg12_2, gg12_3, gg12_4, gg12_5, gg12_6, gg12_7, gg12_9, gg12_8, gg12_10, gg12_11, gg12_12, gg12_13, gg12_14, gg12_15, gg12_16, gg12_17, gg12_18, gg12_19, gg12_20, gg12_21, gg12_22, gg12_23, gl12, h]
  try (intro a b; exfalso; omega)
theorem m8 (name : List UInt8) (h1 : name ≠ [97, 98, 112]) (h2 : name ≠ [109, 117, 116, 101, 120]) (h3 : name ≠ [112, 97, 105, 114]) (h4 : name ≠ [114, 105, 110, 103]) (h5 : name ≠ [116, 111, 115, 115]) : call 8 [.str name] [] = some ([.d (.sl false [])], []) := by
  have g1 : ¬ [97, 98, 112] = name := fun h => h1 h.symm
  have g2 : ¬ [109, 117, 116, 101, 120] = name := fun h => h2 h.symm
  have g3 : ¬ [112, 97, 105, 114] = name := fun h => h3 h.symm
  have g4 : ¬ [114, 105, 110, 103] = name := fun h => h4 h.symm
  have g5 : ¬ [116, 111, 115, 115] = name := fun h => h5 h.symm
  simp -implicitDefEqProofs (maxSteps := 1000000) [go_sem, ge8, gg8_0, gg8_1, gg8_2, gg8_3, gg8_4, gg8_5, gg8_6, gg8_7, gl8, h1, g1, h2, g2, h3, g3, h4, g4, h5, g5]
theorem m13 (name : List UInt8) (h1 : name ≠ [97, 98, 112]) (h2 : name ≠ [109, 117, 116, 101, 120]) (h3 : name ≠ [112, 97, 105, 114]) (h4 : name ≠ [114, 105, 110, 103]) (h5 : name ≠ [116, 111, 115, 115]) : call 13 [.str name] [] = some ([.d (.sl false [])], []) := by
  have g1 : ¬ [97, 98, 112] = name := fun h => h1 h.symm
  have g2 : ¬ [109, 117, 116, 101, 120] = name := fun h => h2 h.symm
  have g3 : ¬ [112, 97, 105, 114] = name := fun h => h3 h.symm
  have g4 : ¬ [114, 105, 110, 103] = name := fun h => h4 h.symm
  have g5 : ¬ [116, 111, 115, 115] = name := fun h => h5 h.symm
  simp -implicitDefEqProofs (maxSteps := 1000000) [go_sem, ge13, gg13_0, gg13_1, gg13_2, gg13_3, gg13_4, gg13_5, gg13_6, gg13_7, gg13_8, gg13_9, gg13_10, gg13_11, gg13_12, gg13_13, gg13_14, h1, g1, h2, g2, h3, g3, h4, g4, h5, g5]
end Go.Lib
/- LibTells and LibMay: where a call comes to a closed one. -/
namespace Go.Lib
open Go Go.Am Go.Proofs
set_option linter.unusedSimpArgs false
set_option linter.unusedVariables false
set_option maxRecDepth 20000
theorem lt_long (name : List UInt8) (n : Int) (h : (100 : Int) < name.length) : call 4 [.str name, .int .i64 n] [] = some ([.d (.bool true)], []) := by
  simp -implicitDefEqProofs (maxSteps := 1000000) [go_sem, ge4, gg4_0, gg4_1, gg4_2, h]
theorem lt_x (name : List UInt8) (n : Int) (h : ¬ (100 : Int) < name.length) (h1 : name ≠ [97, 98, 112]) (h2 : name ≠ [109, 117, 116, 101, 120]) (h3 : name ≠ [112, 97, 105, 114]) (h4 : name ≠ [114, 105, 110, 103]) (h5 : name ≠ [116, 111, 115, 115]) : call 4 [.str name, .int .i64 n] [] = call 4 [.str [], .int .i64 0] [] := by
  simp -implicitDefEqProofs (maxSteps := 1000000) [go_sem, ge4, gg4_0, gg4_1, gg4_3, gg4_4, gg4_5, h, h1, h2, h3, h4, h5, m6, m12, m8, m13]
theorem lt_abp (n : Int) (h : n < 1 ∨ 3 < n) : call 4 [.str [97, 98, 112], .int .i64 n] [] = call 4 [.str [97, 98, 112], .int .i64 0] [] := by
  simp -implicitDefEqProofs (maxSteps := 1000000) [go_sem, ge4, gg4_0, gg4_1, gg4_3, gg4_4, gg4_5, m6_abp n h, m12_abp n h, m6_abp 0 (by omega), m12_abp 0 (by omega)]
theorem lt_mutex (n : Int) (h : n < 2 ∨ 3 < n) : call 4 [.str [109, 117, 116, 101, 120], .int .i64 n] [] = call 4 [.str [109, 117, 116, 101, 120], .int .i64 0] [] := by
  simp -implicitDefEqProofs (maxSteps := 1000000) [go_sem, ge4, gg4_0, gg4_1, gg4_3, gg4_4, gg4_5, m6_mutex n h, m12_mutex n h, m6_mutex 0 (by omega), m12_mutex 0 (by omega)]
theorem lt_pair (n : Int) (h : n < 1 ∨ 3 < n) : call 4 [.str [112, 97, 105, 114], .int .i64 n] [] = call 4 [.str [112, 97, 105, 114], .int .i64 0] [] := by
  simp -implicitDefEqProofs (maxSteps := 1000000) [go_sem, ge4, gg4_0, gg4_1, gg4_3, gg4_4, gg4_5, m6_pair n h, m12_pair n h, m6_pair 0 (by omega), m12_pair 0 (by omega)]
theorem lt_ring (n : Int) (h : n < 2 ∨ 3 < n) : call 4 [.str [114, 105, 110, 103], .int .i64 n] [] = call 4 [.str [114, 105, 110, 103], .int .i64 0] [] := by
  simp -implicitDefEqProofs (maxSteps := 1000000) [go_sem, ge4, gg4_0, gg4_1, gg4_3, gg4_4, gg4_5, m6_ring n h, m12_ring n h, m6_ring 0 (by omega), m12_ring 0 (by omega)]
theorem lt_toss (n : Int) (h : n < 1 ∨ 3 < n) : call 4 [.str [116, 111, 115, 115], .int .i64 n] [] = call 4 [.str [116, 111, 115, 115], .int .i64 0] [] := by
  simp -implicitDefEqProofs (maxSteps := 1000000) [go_sem, ge4, gg4_0, gg4_1, gg4_3, gg4_4, gg4_5, m6_toss n h, m12_toss n h, m6_toss 0 (by omega), m12_toss 0 (by omega)]
theorem lm_w0 (w n : Int) (h : IntKind.i64.wrap w = w) (hr : w.tmod 5 = 0) : call 3 [.int .u8 w, .int .i64 n] [] = call 3 [.int .u8 0, .int .i64 n] [] := by
  simp -implicitDefEqProofs (maxSteps := 1000000) [go_sem, ge3, gg3_0, gg3_1, gg3_2, gg3_3, gg3_4, h, hr]
theorem lm_abp (n : Int) (h : n < 1 ∨ 3 < n) : call 3 [.int .u8 0, .int .i64 n] [] = some ([.d (.bool true)], []) := by
  simp -implicitDefEqProofs (maxSteps := 1000000) [go_sem, ge3, gg3_0, gg3_1, gg3_2, gg3_3, gg3_4, gg3_5, gg3_6, gg3_7, m6_abp n h]
theorem lm_w1 (w n : Int) (h : IntKind.i64.wrap w = w) (hr : w.tmod 5 = 1) : call 3 [.int .u8 w, .int .i64 n] [] = call 3 [.int .u8 1, .int .i64 n] [] := by
  simp -implicitDefEqProofs (maxSteps := 1000000) [go_sem, ge3, gg3_0, gg3_1, gg3_2, gg3_3, gg3_4, h, hr]
theorem lm_mutex (n : Int) (h : n < 2 ∨ 3 < n) : call 3 [.int .u8 1, .int .i64 n] [] = some ([.d (.bool true)], []) := by
  simp -implicitDefEqProofs (maxSteps := 1000000) [go_sem, ge3, gg3_0, gg3_1, gg3_2, gg3_3, gg3_4, gg3_5, gg3_6, gg3_7, m6_mutex n h]
theorem lm_w2 (w n : Int) (h : IntKind.i64.wrap w = w) (hr : w.tmod 5 = 2) : call 3 [.int .u8 w, .int .i64 n] [] = call 3 [.int .u8 2, .int .i64 n] [] := by
  simp -implicitDefEqProofs (maxSteps := 1000000) [go_sem, ge3, gg3_0, gg3_1, gg3_2, gg3_3, gg3_4, h, hr]
theorem lm_pair (n : Int) (h : n < 1 ∨ 3 < n) : call 3 [.int .u8 2, .int .i64 n] [] = some ([.d (.bool true)], []) := by
  simp -implicitDefEqProofs (maxSteps := 1000000) [go_sem, ge3, gg3_0, gg3_1, gg3_2, gg3_3, gg3_4, gg3_5, gg3_6, gg3_7, m6_pair n h]
theorem lm_w3 (w n : Int) (h : IntKind.i64.wrap w = w) (hr : w.tmod 5 = 3) : call 3 [.int .u8 w, .int .i64 n] [] = call 3 [.int .u8 3, .int .i64 n] [] := by
  simp -implicitDefEqProofs (maxSteps := 1000000) [go_sem, ge3, gg3_0, gg3_1, gg3_2, gg3_3, gg3_4, h, hr]
theorem lm_ring (n : Int) (h : n < 2 ∨ 3 < n) : call 3 [.int .u8 3, .int .i64 n] [] = some ([.d (.bool true)], []) := by
  simp -implicitDefEqProofs (maxSteps := 1000000) [go_sem, ge3, gg3_0, gg3_1, gg3_2, gg3_3, gg3_4, gg3_5, gg3_6, gg3_7, m6_ring n h]
theorem lm_w4 (w n : Int) (h : IntKind.i64.wrap w = w) (hr : w.tmod 5 = 4) : call 3 [.int .u8 w, .int .i64 n] [] = call 3 [.int .u8 4, .int .i64 n] [] := by
  simp -implicitDefEqProofs (maxSteps := 1000000) [go_sem, ge3, gg3_0, gg3_1, gg3_2, gg3_3, gg3_4, h, hr]
theorem lm_toss (n : Int) (h : n < 1 ∨ 3 < n) : call 3 [.int .u8 4, .int .i64 n] [] = some ([.d (.bool true)], []) := by
  simp -implicitDefEqProofs (maxSteps := 1000000) [go_sem, ge3, gg3_0, gg3_1, gg3_2, gg3_3, gg3_4, gg3_5, gg3_6, gg3_7, m6_toss n h]
end Go.Lib
