/- A part of the proof: texts of mine, merged by a program (wip/dev/merge.py). -/
import Derived.Test.YtabkianhbgpfgaaFw3
import Derived.Test.YtabkianhbgpfgaaChecked
import Derived.KernelRfl
namespace Go.Fair
open Go Go.Am Go.Proofs
noncomputable abbrev P : Program := Try.prog
def hint3 : Hint := { nv := 15, objs := [], keep := [17, 18, 23, 32, 43, 48, 53, 56], lits := [], own := false, live := fun id => (Am.look [(0, [1, 2, 3]), (1, [1, 2, 3, 17]), (2, [6]), (3, [1, 2, 3, 7, 8, 9, 10]), (4, [7, 8, 9, 10, 11, 12, 13, 14]), (5, [6])] id).getD [] }
def hint4 : Hint := { nv := 29, objs := [], keep := [34, 41, 57, 112, 228, 262], lits := [155, 159, 163], own := false, live := fun id => (Am.look [(0, [1, 2, 3]), (1, [1, 2, 3, 7]), (2, [1, 2, 3, 7, 8, 9, 10, 11]), (3, [1, 2, 3, 7, 8, 9, 10, 56]), (4, [6]), (5, [1, 2, 3, 7, 8, 9, 10, 76]), (6, [6]), (7, [1, 2, 3, 7, 8, 9, 10, 77, 78, 79]), (8, [1, 2, 3, 7, 8, 9, 10, 77, 78, 79, 80]), (9, [1, 2, 3, 7, 8, 9, 10, 13, 77, 78, 79]), (10, [1, 2, 3, 7, 8, 9, 10, 77, 78, 79, 87]), (11, [6]), (12, [1, 2, 3, 7, 8, 9, 10, 77, 78, 79]), (13, [1, 2, 3, 7, 8, 9, 10, 14, 15]), (14, [1, 2, 3, 7, 8, 9, 10, 14, 15, 16, 17, 18]), (15, [1, 2, 3, 7, 8, 9, 10, 14, 15, 16, 17, 18, 97]), (16, [1, 2, 3, 7, 8, 9, 10, 14, 15, 16, 17, 18, 97, 98]), (17, [1, 2, 3, 7, 8, 9, 10, 14, 15, 16, 17, 18, 97, 99, 100, 101]), (18, [1, 2, 3, 7, 8, 9, 10, 14, 15, 16, 17, 18, 97, 99, 100, 101, 102]), (19, [1, 2, 3, 7, 8, 9, 10, 14, 15, 16, 17, 18, 20, 97, 99, 100, 101]), (20, [1, 2, 3, 7, 8, 9, 10, 14, 15, 16, 17, 18, 20, 97, 99, 100, 101, 111]), (21, [6]), (22, [1, 2, 3, 7, 8, 9, 10, 14, 15, 16, 17, 18, 20, 97, 99, 100, 101, 143]), (23, [6]), (24, [1, 2, 3, 7, 8, 9, 10, 14, 15, 16, 17, 18, 21, 97, 99, 100, 101]), (25, [1, 2, 3, 7, 8, 9, 10, 14, 15, 16, 17, 18, 21, 97, 99, 100, 101]), (26, [1, 2, 3, 7, 8, 9, 10, 14, 15, 16, 17, 18, 97, 99, 100, 101]), (27, [1, 2, 3, 7, 8, 9, 10, 14, 15, 16, 17, 18, 97, 99, 100, 101]), (28, [1, 2, 3, 7, 8, 9, 10, 14, 15, 16, 17, 18, 97]), (29, [1, 3, 7, 10, 16, 17, 18, 22]), (30, [1, 3, 7, 10, 16, 17, 18, 22, 23]), (31, [1, 3, 7, 10, 16, 17, 18, 22, 23, 190]), (32, [1, 3, 7, 10, 16, 17, 18, 22, 23]), (33, [1, 3, 7, 10, 16, 17, 18, 22, 23, 214]), (34, [7, 10, 18, 22, 23, 24]), (35, [10, 18, 22, 23, 24, 230, 231]), (36, [10, 18, 22, 23, 24, 230, 231, 232]), (37, [10, 18, 22, 23, 24, 25, 230, 231]), (38, [10, 18, 22, 23, 24, 25, 26, 230, 231]), (39, [10, 18, 22, 23, 24, 25, 26, 230, 231, 238, 239, 240]), (40, [10, 18, 22, 23, 24, 25, 26, 230, 231, 238, 239, 240, 241]), (41, [10, 18, 22, 23, 24, 25, 26, 28, 230, 231, 238, 239, 240]), (42, [10, 18, 22, 23, 24, 25, 26, 230, 231, 238, 239, 240]), (43, [10, 18, 22, 23, 24, 25, 26, 230, 231, 238, 239, 240]), (44, [10, 18, 22, 23, 24, 230, 231, 260]), (45, [6]), (46, [10, 18, 22, 23, 24, 230, 231]), (47, [6])] id).getD [] }
def hint5 : Hint := { nv := 15, objs := [], keep := [17, 25, 28, 49, 87], lits := [], own := false, live := fun id => (Am.look [(0, [1, 2]), (1, [1, 2, 27]), (2, [4]), (3, [1, 2, 5]), (4, [1, 2, 5, 34, 35]), (5, [1, 2, 5, 34, 35, 36]), (6, [1, 2, 5, 6, 34, 35]), (7, [1, 2, 5, 34, 35]), (8, [1, 2, 5, 34, 35]), (9, [1, 7, 8, 9, 10]), (10, [9, 70]), (11, [4]), (12, [71, 72, 73]), (13, [71, 72, 73, 74]), (14, [12, 71, 72, 73]), (15, [71, 72, 73, 77, 78, 79]), (16, [71, 72, 73, 77, 78, 79, 80]), (17, [14, 71, 72, 73, 77, 78, 79]), (18, [71, 72, 73, 77, 78, 79, 84]), (19, [4]), (20, [71, 72, 73, 77, 78, 79]), (21, [71, 72, 73]), (22, [4])] id).getD [] }
def hint6 : Hint := { nv := 8, objs := [], keep := [], lits := [], own := false, live := fun id => (Am.look [(0, [1, 2]), (1, [1, 2, 5]), (2, [1, 5, 16, 17, 18]), (3, [1, 5, 16, 17, 18, 19]), (4, [1, 5, 7, 16, 17, 18]), (5, [1, 5, 16, 17, 18]), (6, [1, 5, 16, 17, 18]), (7, [4])] id).getD [] }
def hint7 : Hint := { nv := 6, objs := [], keep := [18], lits := [6, 9, 10, 11, 15, 16, 17], own := false, live := fun id => (Am.look [(0, []), (1, [1]), (2, [2, 3, 4, 5]), (3, [0])] id).getD [] }
def hint8 : Hint := { nv := 26, objs := [46], keep := [27, 36, 85], lits := [91, 114], own := false, live := fun id => (Am.look [(0, [1, 2, 3, 6]), (1, [1, 2, 3, 6, 10]), (2, [1, 2, 3, 6, 10, 29]), (3, [6, 7, 8, 9]), (4, [1, 2, 3, 6, 32]), (5, [6, 7, 8, 9]), (6, [1, 2, 3, 6, 39]), (7, [6, 7, 8, 9]), (8, [1, 2, 3, 6, 11]), (9, [1, 2, 3, 6, 11, 12]), (10, [1, 2, 3, 6, 11, 12, 13]), (11, [1, 2, 3, 6, 11, 12, 13, 58]), (12, [1, 2, 3, 6, 11, 12, 13]), (13, [1, 2, 3, 6, 11, 12, 13, 14]), (14, [1, 2, 3, 6, 11, 12, 13, 14, 15]), (15, [1, 2, 3, 6, 11, 12, 13, 14, 15, 73, 74, 75]), (16, [1, 2, 3, 6, 11, 12, 13, 14, 15, 73, 74, 75, 76]), (17, [1, 2, 3, 6, 11, 12, 13, 14, 15, 17, 73, 74, 75]), (18, [1, 2, 3, 6, 11, 12, 13, 14, 15, 73, 74, 75]), (19, [1, 2, 3, 6, 11, 12, 13, 14, 15, 73, 74, 75]), (20, [1, 2, 3, 6, 11, 12, 13, 14, 15, 99]), (21, [6, 7, 8, 9]), (22, [1, 2, 3, 6, 11, 12, 13, 14]), (23, [1, 2, 3, 6, 11, 12, 13]), (24, [1, 2, 6, 11, 12, 18]), (25, [1, 2, 6, 11, 12, 18, 19]), (26, [1, 6, 11, 12, 18, 19, 126, 127, 128]), (27, [1, 6, 11, 12, 18, 19, 126, 127, 128, 129]), (28, [1, 6, 11, 12, 18, 19, 20, 21, 126, 127, 128]), (29, [1, 6, 11, 12, 18, 19, 20, 21, 126, 127, 128]), (30, [1, 6, 11, 12, 18, 19, 20, 21, 126, 127, 128, 145, 146, 147]), (31, [1, 6, 11, 12, 18, 19, 20, 21, 126, 127, 128, 145, 146, 147, 148]), (32, [1, 6, 11, 12, 18, 19, 20, 21, 22, 23, 126, 127, 128, 145, 146, 147]), (33, [1, 6, 11, 12, 18, 19, 20, 21, 126, 127, 128, 145, 146, 147]), (34, [1, 6, 11, 12, 18, 19, 20, 21, 126, 127, 128, 145, 146, 147]), (35, [1, 6, 11, 12, 18, 19, 126, 127, 128]), (36, [6, 12, 18, 19, 178, 179, 180]), (37, [6, 12, 18, 19, 178, 179, 180, 181]), (38, [6, 12, 18, 19, 24, 25, 178, 179, 180]), (39, [6, 12, 18, 19, 178, 179, 180]), (40, [6, 12, 18, 19, 178, 179, 180]), (41, [6, 7, 8, 9])] id).getD [] }
def hint9 : Hint := { nv := 26, objs := [], keep := [27, 38, 60, 110, 114, 123], lits := [66, 71, 118, 127, 142, 147, 186], own := false, live := fun id => (Am.look [(0, [1, 2, 3, 6]), (1, [1, 2, 3, 6, 10]), (2, [1, 2, 3, 6, 10, 29]), (3, [6, 7, 8, 9]), (4, [1, 2, 3, 6, 39]), (5, [6, 7, 8, 9]), (6, [1, 2, 3, 6, 43]), (7, [6, 7, 8, 9]), (8, [1, 2, 3, 6, 11]), (9, [1, 2, 3, 6, 11, 12]), (10, [1, 2, 3, 6, 11, 12, 13]), (11, [1, 2, 3, 6, 11, 12, 13, 49]), (12, [1, 2, 3, 6, 11, 12, 13]), (13, [1, 2, 3, 6, 11, 12, 13, 14]), (14, [1, 2, 3, 6, 11, 12, 13, 14, 61]), (15, [1, 2, 3, 6, 11, 12, 13, 14]), (16, [1, 2, 3, 6, 11, 12, 13]), (17, [1, 2, 3, 6, 11, 12, 15]), (18, [1, 2, 3, 6, 11, 12, 15, 16]), (19, [1, 2, 3, 6, 11, 12, 15, 16, 76]), (20, [1, 2, 3, 6, 11, 12, 15, 16]), (21, [1, 2, 3, 6, 11, 12, 15, 16, 81]), (22, [6, 7, 8, 9]), (23, [1, 2, 3, 6, 11, 12, 15, 16, 17]), (24, [1, 2, 3, 6, 11, 12, 15, 16, 17, 18]), (25, [1, 2, 3, 6, 11, 12, 15, 16, 17, 18, 19]), (26, [1, 2, 3, 6, 11, 12, 15, 16, 17, 18, 19, 95]), (27, [1, 2, 3, 6, 11, 12, 15, 16, 17, 18, 19]), (28, [1, 2, 3, 6, 11, 12, 15, 16, 17, 18, 19, 20]), (29, [1, 2, 3, 6, 11, 12, 15, 16, 17, 18, 19, 20, 21]), (30, [1, 2, 3, 6, 11, 12, 15, 16, 17, 18, 19, 20, 21, 115]), (31, [1, 2, 3, 6, 11, 12, 15, 16, 17, 18, 19, 20, 21]), (32, [1, 2, 3, 6, 11, 12, 15, 16, 17, 18, 19]), (33, [1, 2, 3, 6, 11, 12, 15, 16, 17]), (34, [1, 2, 3, 6, 11, 12, 15, 16, 17]), (35, [1, 2, 3, 6, 11, 12, 15, 16]), (36, [1, 2, 6, 11, 12, 15, 22]), (37, [1, 2, 6, 11, 12, 15, 22, 23]), (38, [1, 2, 6, 11, 12, 15, 22, 23, 152]), (39, [1, 2, 6, 11, 12, 15, 22, 23]), (40, [1, 2, 6, 11, 12, 15, 22, 23, 24]), (41, [1, 2, 6, 11, 12, 15, 22, 23, 24, 25]), (42, [1, 2, 6, 11, 12, 15, 22, 23, 24, 25, 158]), (43, [1, 2, 6, 11, 12, 15, 22, 23, 24, 25]), (44, [1, 2, 6, 11, 12, 15, 22, 23, 24, 25]), (45, [1, 2, 6, 11, 12, 15, 22, 23]), (46, [6, 7, 8, 9])] id).getD [] }
def hint10 : Hint := { nv := 8, objs := [], keep := [12], lits := [], own := false, live := fun id => (Am.look [(0, [2, 3]), (1, [2, 3, 31]), (2, [4]), (3, [2, 3, 5]), (4, [2, 3, 5, 36]), (5, [2, 3, 5]), (6, [2, 3, 5, 49]), (7, [4]), (8, [2, 3, 6]), (9, [2, 3, 6, 54]), (10, [2, 3, 6]), (11, [2, 3, 6, 69]), (12, [4]), (13, [2, 3, 6, 7]), (14, [2, 3, 6, 7, 77]), (15, [2, 3, 6, 7]), (16, [2, 3, 6, 7, 96]), (17, [4]), (18, [4])] id).getD [] }
def hint11 : Hint := { nv := 6, objs := [], keep := [], lits := [], own := false, live := fun id => (Am.look [(0, [0, 1]), (1, [0, 1, 10]), (2, [4]), (3, [0, 1, 5]), (4, [0, 1, 5, 14]), (5, [0, 1, 5]), (6, [0, 1, 5, 25]), (7, [4]), (8, [4])] id).getD [] }
def hint12 : Hint := { nv := 7, objs := [], keep := [], lits := [], own := false, live := fun id => (Am.look [(0, [0, 1]), (1, [0, 1, 11]), (2, [4]), (3, [0, 1, 13, 14]), (4, [0, 1, 13, 14, 15]), (5, [0, 1, 5, 13, 14]), (6, [0, 1, 5, 13, 14, 27]), (7, [4]), (8, [0, 1, 5, 13, 14, 32, 33]), (9, [0, 1, 5, 13, 14, 32, 33, 34]), (10, [0, 1, 5, 6, 13, 14, 32, 33]), (11, [0, 1, 5, 13, 14, 32, 33, 50]), (12, [4]), (13, [0, 1, 5, 13, 14, 32, 33]), (14, [0, 1, 13, 14]), (15, [4])] id).getD [] }
def hint13 : Hint := { nv := 16, objs := [], keep := [45], lits := [], own := false, live := fun id => (Am.look [(0, [1, 2, 3, 4, 5]), (1, [1, 2, 3, 4, 5, 11]), (2, [1, 2, 4, 5, 11, 19, 20, 21]), (3, [1, 2, 4, 5, 11, 19, 20, 21, 22]), (4, [1, 2, 4, 5, 11, 12, 13, 19, 20, 21]), (5, [1, 2, 4, 5, 11, 12, 13, 19, 20, 21, 26, 27, 28]), (6, [1, 2, 4, 5, 11, 12, 13, 19, 20, 21, 26, 27, 28, 29]), (7, [1, 2, 4, 5, 11, 12, 13, 14, 15, 19, 20, 21, 26, 27, 28]), (8, [1, 2, 4, 5, 11, 12, 13, 14, 19, 20, 21, 26, 27, 28, 57]), (9, [1, 2, 4, 5, 11, 12, 13, 19, 20, 21, 26, 27, 28]), (10, [1, 2, 4, 5, 11, 12, 13, 19, 20, 21, 26, 27, 28]), (11, [1, 2, 4, 5, 11, 19, 20, 21]), (12, [10])] id).getD [] }
def hint14 : Hint := { nv := 6, objs := [], keep := [30, 59], lits := [], own := false, live := fun id => (Am.look [(0, [1]), (1, [1, 9]), (2, [2]), (3, [1, 16]), (4, [2]), (5, [1, 3]), (6, [1, 3, 21]), (7, [1, 3]), (8, [1, 3, 31]), (9, [2]), (10, [1, 4]), (11, [1, 4, 36]), (12, [1, 4]), (13, [1, 4, 5]), (14, [1, 4, 5, 46]), (15, [1, 4, 5]), (16, [1, 4, 5, 60]), (17, [2]), (18, [2])] id).getD [] }
def hint15 : Hint := { nv := 8, objs := [1], keep := [27], lits := [], own := false, live := fun id => (Am.look [(0, [1]), (1, [1, 3]), (2, [1, 3, 12]), (3, [2]), (4, [1, 17]), (5, [2]), (6, [1, 19, 20, 21]), (7, [1, 19, 20, 21, 22]), (8, [1, 5, 19, 20, 21]), (9, [1, 19, 20, 21, 28]), (10, [2]), (11, [1, 19, 20, 21]), (12, [1, 31, 32, 33]), (13, [1, 31, 32, 33, 34]), (14, [1, 7, 31, 32, 33]), (15, [1, 31, 32, 33, 39]), (16, [2]), (17, [1, 31, 32, 33]), (18, [2])] id).getD [] }
def hint16 : Hint := { nv := 9, objs := [], keep := [], lits := [], own := false, live := fun id => (Am.look [(0, [1, 2, 3]), (1, [1, 2, 14]), (2, [6]), (3, [2, 15, 16, 17]), (4, [2, 15, 16, 17, 18]), (5, [2, 8, 15, 16, 17]), (6, [2, 15, 16, 17, 25]), (7, [6]), (8, [2, 15, 16, 17]), (9, [6])] id).getD [] }
def hint17 : Hint := { nv := 9, objs := [], keep := [], lits := [25], own := false, live := fun id => (Am.look [(0, [0, 1]), (1, [0, 1, 5]), (2, [0, 5, 9, 10, 11]), (3, [0, 5, 9, 10, 11, 12]), (4, [0, 5, 7, 9, 10, 11]), (5, [0, 5, 8, 9, 10, 11]), (6, [0, 5, 8, 9, 10, 11, 22]), (7, [0, 5, 9, 10, 11]), (8, [0, 5, 9, 10, 11]), (9, [4])] id).getD [] }
def hint18 : Hint := { nv := 7, objs := [], keep := [], lits := [35], own := false, live := fun id => (Am.look [(0, [0, 3]), (1, [0, 3, 5, 6]), (2, [0, 3, 5, 17]), (3, [0, 3, 5]), (4, [0, 3, 5]), (5, [5]), (6, [4])] id).getD [] }
def hint19 : Hint := { nv := 2, objs := [], keep := [], lits := [], own := false, live := fun id => (Am.look [(0, [0]), (1, [0, 4]), (2, [2]), (3, [2])] id).getD [] }
def hint20 : Hint := { nv := 8, objs := [], keep := [], lits := [], own := false, live := fun id => (Am.look [(0, [0, 1, 2]), (1, [0, 2, 11]), (2, [6]), (3, [0, 2, 7]), (4, [0, 2, 7, 15]), (5, [0, 2, 7]), (6, [0, 2, 7, 24]), (7, [6]), (8, [6])] id).getD [] }
def hint21 : Hint := { nv := 6, objs := [], keep := [], lits := [], own := false, live := fun id => (Am.look [(0, [0, 3]), (1, [0, 3, 5]), (2, [0, 3, 5, 9]), (3, [0, 3, 5]), (4, [0, 3, 5, 17]), (5, [4]), (6, [4])] id).getD [] }
def hint22 : Hint := { nv := 2, objs := [], keep := [], lits := [], own := false, live := fun id => (Am.look [(0, [0]), (1, [0, 4]), (2, [2]), (3, [2])] id).getD [] }
def hint23 : Hint := { nv := 6, objs := [], keep := [], lits := [], own := false, live := fun id => (Am.look [(0, [0, 1]), (1, [0, 1, 10]), (2, [4]), (3, [0, 1, 5]), (4, [0, 1, 5, 14]), (5, [0, 1, 5]), (6, [0, 1, 5, 25]), (7, [4]), (8, [4])] id).getD [] }
def hint24 : Hint := { nv := 4, objs := [], keep := [], lits := [], own := false, live := fun id => (Am.look [(0, [1, 2]), (1, [4])] id).getD [] }
def hint25 : Hint := { nv := 4, objs := [], keep := [], lits := [], own := false, live := fun id => (Am.look [(0, [1, 2]), (1, [4])] id).getD [] }
def hint26 : Hint := { nv := 4, objs := [], keep := [], lits := [], own := false, live := fun id => (Am.look [(0, [0, 1]), (1, [4])] id).getD [] }
def hint27 : Hint := { nv := 3, objs := [], keep := [7], lits := [], own := false, live := fun id => (Am.look [(0, [1, 2]), (1, [3])] id).getD [] }
def hint28 : Hint := { nv := 6, objs := [], keep := [], lits := [], own := false, live := fun id => (Am.look [(0, [0, 1]), (1, [0, 1, 7, 8]), (2, [0, 1, 7, 8, 9]), (3, [0, 1, 5, 7, 8]), (4, [0, 1, 5, 7, 8, 16]), (5, [4]), (6, [0, 1, 7, 8]), (7, [4])] id).getD [] }
def hints : FuncId → Hint := fun f => match f with
  | 3 => hint3
  | 4 => hint4
  | 5 => hint5
  | 6 => hint6
  | 7 => hint7
  | 8 => hint8
  | 9 => hint9
  | 10 => hint10
  | 11 => hint11
  | 12 => hint12
  | 13 => hint13
  | 14 => hint14
  | 15 => hint15
  | 16 => hint16
  | 17 => hint17
  | 18 => hint18
  | 19 => hint19
  | 20 => hint20
  | 21 => hint21
  | 22 => hint22
  | 23 => hint23
  | 24 => hint24
  | 25 => hint25
  | 26 => hint26
  | 27 => hint27
  | 28 => hint28
  | _ => { nv := 0, objs := [], keep := [], lits := [], own := false, live := fun _ => [] }
noncomputable abbrev call : CallF := callX P hints
@[go_sem] theorem hn3 : hint3.nv = 15 := rfl
@[go_sem] theorem hk3 : hint3.keep = [17, 18, 23, 32, 43, 48, 53, 56] := rfl
@[go_sem] theorem hn4 : hint4.nv = 29 := rfl
@[go_sem] theorem ho4 : hint4.objs = [] := rfl
@[go_sem] theorem hk4 : hint4.keep = [34, 41, 57, 112, 228, 262] := rfl
@[go_sem] theorem hl4 : hint4.lits = [155, 159, 163] := rfl
@[go_sem] theorem hn6 : hint6.nv = 8 := rfl
@[go_sem] theorem ho6 : hint6.objs = [] := rfl
@[go_sem] theorem hn8 : hint8.nv = 26 := rfl
@[go_sem] theorem ho8 : hint8.objs = [46] := rfl
@[go_sem] theorem hk8 : hint8.keep = [27, 36, 85] := rfl
@[go_sem] theorem hl8 : hint8.lits = [91, 114] := rfl
@[go_sem] theorem hn9 : hint9.nv = 26 := rfl
@[go_sem] theorem ho9 : hint9.objs = [] := rfl
@[go_sem] theorem hk9 : hint9.keep = [27, 38, 60, 110, 114, 123] := rfl
@[go_sem] theorem hl9 : hint9.lits = [66, 71, 118, 127, 142, 147, 186] := rfl
@[go_sem] theorem hn13 : hint13.nv = 16 := rfl
@[go_sem] theorem ho13 : hint13.objs = [] := rfl
@[go_sem] theorem hk13 : hint13.keep = [45] := rfl
@[go_sem] theorem hn14 : hint14.nv = 6 := rfl
@[go_sem] theorem ho14 : hint14.objs = [] := rfl
@[go_sem] theorem hk14 : hint14.keep = [30, 59] := rfl
@[go_sem] theorem hn15 : hint15.nv = 8 := rfl
@[go_sem] theorem ho15 : hint15.objs = [1] := rfl
@[go_sem] theorem hk15 : hint15.keep = [27] := rfl
@[go_sem] theorem hn16 : hint16.nv = 9 := rfl
@[go_sem] theorem ho16 : hint16.objs = [] := rfl
@[go_sem] theorem hn17 : hint17.nv = 9 := rfl
@[go_sem] theorem hk17 : hint17.keep = [] := rfl
@[go_sem] theorem hl17 : hint17.lits = [25] := rfl
@[go_sem] theorem hn18 : hint18.nv = 7 := rfl
@[go_sem] theorem ho18 : hint18.objs = [] := rfl
@[go_sem] theorem hl18 : hint18.lits = [35] := rfl
@[go_sem] theorem hn21 : hint21.nv = 6 := rfl
@[go_sem] theorem ho21 : hint21.objs = [] := rfl
@[go_sem] theorem hn24 : hint24.nv = 4 := rfl
@[go_sem] theorem ho24 : hint24.objs = [] := rfl
@[go_sem] theorem hn25 : hint25.nv = 4 := rfl
@[go_sem] theorem ho25 : hint25.objs = [] := rfl
@[go_sem] theorem hn26 : hint26.nv = 4 := rfl
@[go_sem] theorem hk26 : hint26.keep = [] := rfl
@[go_sem] theorem hn27 : hint27.nv = 3 := rfl
@[go_sem] theorem ho27 : hint27.objs = [] := rfl
@[go_sem] theorem hk27 : hint27.keep = [7] := rfl
@[go_sem] theorem hn28 : hint28.nv = 6 := rfl
@[go_sem] theorem hk28 : hint28.keep = [] := rfl
@[go_sem] theorem el0 : Am.elemOf P 0 = none := by kernel_rfl
@[go_sem] theorem ag3 : aggO P 3 = some false := by kernel_rfl
@[go_sem] theorem el3 : Am.elemOf P 3 = none := by kernel_rfl
@[go_sem] theorem ce3 : P.cellsOf 3 = 1 := by kernel_rfl
@[go_sem] theorem by3 : P.bytesOf 3 = 8 := by kernel_rfl
@[go_sem] theorem in3 : (P.info? 3).isSome = true := by kernel_rfl
@[go_sem] theorem ze3 : zeroOf P 3 = some (.int .i64 (0)) := by kernel_rfl
@[go_sem] theorem un3 : P.underlying 3 = some (.int .i64) := by kernel_rfl
@[go_sem] theorem ag4 : aggO P 4 = some false := by kernel_rfl
@[go_sem] theorem el4 : Am.elemOf P 4 = none := by kernel_rfl
@[go_sem] theorem ce4 : P.cellsOf 4 = 1 := by kernel_rfl
@[go_sem] theorem by4 : P.bytesOf 4 = 1 := by kernel_rfl
@[go_sem] theorem ze4 : zeroOf P 4 = some (.bool false) := by kernel_rfl
@[go_sem] theorem un4 : P.underlying 4 = some .bool := by kernel_rfl
@[go_sem] theorem ag5 : aggO P 5 = some false := by kernel_rfl
@[go_sem] theorem el5 : Am.elemOf P 5 = none := by kernel_rfl
@[go_sem] theorem ce5 : P.cellsOf 5 = 1 := by kernel_rfl
@[go_sem] theorem un5 : P.underlying 5 = some (.int .u8) := by kernel_rfl
@[go_sem] theorem ag22 : aggO P 22 = some false := by kernel_rfl
@[go_sem] theorem el22 : Am.elemOf P 22 = some 3 := by kernel_rfl
@[go_sem] theorem ce22 : P.cellsOf 22 = 1 := by kernel_rfl
@[go_sem] theorem un22 : P.underlying 22 = some (.slice 3) := by kernel_rfl
@[go_sem] theorem ag23 : aggO P 23 = some false := by kernel_rfl
@[go_sem] theorem el23 : Am.elemOf P 23 = some 39 := by kernel_rfl
@[go_sem] theorem ce23 : P.cellsOf 23 = 1 := by kernel_rfl
@[go_sem] theorem un23 : P.underlying 23 = some (.slice 39) := by kernel_rfl
@[go_sem] theorem ag24 : aggO P 24 = some false := by kernel_rfl
@[go_sem] theorem el24 : Am.elemOf P 24 = some 45 := by kernel_rfl
@[go_sem] theorem ce24 : P.cellsOf 24 = 1 := by kernel_rfl
@[go_sem] theorem un24 : P.underlying 24 = some (.slice 45) := by kernel_rfl
@[go_sem] theorem ag26 : aggO P 26 = some true := by kernel_rfl
@[go_sem] theorem ce26 : P.cellsOf 26 = 3 := by kernel_rfl
@[go_sem] theorem ze26 : zeroOf P 26 = some (.agg [.nils, .nils, .nils]) := by kernel_rfl
@[go_sem] theorem fi26_0 : fieldOf P 26 0 = some (0, 1, false) := by kernel_rfl
@[go_sem] theorem fi26_1 : fieldOf P 26 1 = some (1, 1, false) := by kernel_rfl
@[go_sem] theorem fi26_2 : fieldOf P 26 2 = some (2, 1, false) := by kernel_rfl
@[go_sem] theorem pl26 : placesOf P 26 = some (.inr [(0, 1), (1, 1), (2, 1)]) := by kernel_rfl
@[go_sem] theorem el27 : Am.elemOf P 27 = some 38 := by kernel_rfl
@[go_sem] theorem un27 : P.underlying 27 = some (.slice 38) := by kernel_rfl
@[go_sem] theorem el30 : Am.elemOf P 30 = none := by kernel_rfl
@[go_sem] theorem un37 : P.underlying 37 = some (.slice 5) := by kernel_rfl
@[go_sem] theorem ag38 : aggO P 38 = some false := by kernel_rfl
@[go_sem] theorem el38 : Am.elemOf P 38 = some 4 := by kernel_rfl
@[go_sem] theorem ce38 : P.cellsOf 38 = 1 := by kernel_rfl
@[go_sem] theorem by38 : P.bytesOf 38 = 24 := by kernel_rfl
@[go_sem] theorem ze38 : zeroOf P 38 = some (.nils) := by kernel_rfl
@[go_sem] theorem un38 : P.underlying 38 = some (.slice 4) := by kernel_rfl
@[go_sem] theorem ag39 : aggO P 39 = some false := by kernel_rfl
@[go_sem] theorem el39 : Am.elemOf P 39 = some 41 := by kernel_rfl
@[go_sem] theorem ce39 : P.cellsOf 39 = 1 := by kernel_rfl
@[go_sem] theorem by39 : P.bytesOf 39 = 24 := by kernel_rfl
@[go_sem] theorem ze39 : zeroOf P 39 = some (.nils) := by kernel_rfl
@[go_sem] theorem un39 : P.underlying 39 = some (.slice 41) := by kernel_rfl
@[go_sem] theorem ag41 : aggO P 41 = some true := by kernel_rfl
@[go_sem] theorem ce41 : P.cellsOf 41 = 2 := by kernel_rfl
@[go_sem] theorem by41 : P.bytesOf 41 = 16 := by kernel_rfl
@[go_sem] theorem ze41 : zeroOf P 41 = some (.agg [.int .i64 (0), .int .i64 (0)]) := by kernel_rfl
@[go_sem] theorem fi41_0 : fieldOf P 41 0 = some (0, 1, false) := by kernel_rfl
@[go_sem] theorem fi41_1 : fieldOf P 41 1 = some (1, 1, false) := by kernel_rfl
@[go_sem] theorem pl41 : placesOf P 41 = some (.inr [(0, 1), (1, 1)]) := by kernel_rfl
@[go_sem] theorem ag45 : aggO P 45 = some false := by kernel_rfl
@[go_sem] theorem ce45 : P.cellsOf 45 = 1 := by kernel_rfl
@[go_sem] theorem by45 : P.bytesOf 45 = 8 := by kernel_rfl
@[go_sem] theorem ze45 : zeroOf P 45 = some (.int .u64 (0)) := by kernel_rfl
@[go_sem] theorem un45 : P.underlying 45 = some (.int .u64) := by kernel_rfl
@[go_sem] theorem el46 : Am.elemOf P 46 = none := by kernel_rfl
@[go_sem] theorem ag47 : aggO P 47 = some false := by kernel_rfl
@[go_sem] theorem ce47 : P.cellsOf 47 = 1 := by kernel_rfl
@[go_sem] theorem ma47 : mapOf P 47 = some (53, 3) := by kernel_rfl
@[go_sem] theorem ag48 : aggO P 48 = some false := by kernel_rfl
@[go_sem] theorem el48 : Am.elemOf P 48 = some 53 := by kernel_rfl
@[go_sem] theorem ce48 : P.cellsOf 48 = 1 := by kernel_rfl
@[go_sem] theorem ce50 : P.cellsOf 50 = 2 := by kernel_rfl
@[go_sem] theorem ze50 : zeroOf P 50 = some (.agg [.nilm, .nils]) := by kernel_rfl
@[go_sem] theorem fi50_0 : fieldOf P 50 0 = some (0, 1, false) := by kernel_rfl
@[go_sem] theorem fi50_1 : fieldOf P 50 1 = some (1, 1, false) := by kernel_rfl
@[go_sem] theorem pl50 : placesOf P 50 = some (.inr [(0, 1), (1, 1)]) := by kernel_rfl
@[go_sem] theorem ag53 : aggO P 53 = some true := by kernel_rfl
@[go_sem] theorem ce53 : P.cellsOf 53 = 2 := by kernel_rfl
@[go_sem] theorem by53 : P.bytesOf 53 = 16 := by kernel_rfl
@[go_sem] theorem ze53 : zeroOf P 53 = some (.agg [.int .i64 (0), .int .i64 (0)]) := by kernel_rfl
@[go_sem] theorem fi53_0 : fieldOf P 53 0 = some (0, 1, false) := by kernel_rfl
@[go_sem] theorem fi53_1 : fieldOf P 53 1 = some (1, 1, false) := by kernel_rfl
@[go_sem] theorem pl53 : placesOf P 53 = some (.inr [(0, 1), (1, 1)]) := by kernel_rfl
@[go_sem] theorem ps53 : plainS P 53 = some [0, 0] := by kernel_rfl
@[go_sem] theorem el57 : Am.elemOf P 57 = some 59 := by kernel_rfl
@[go_sem] theorem ag59 : aggO P 59 = some true := by kernel_rfl
@[go_sem] theorem ce59 : P.cellsOf 59 = 2 := by kernel_rfl
@[go_sem] theorem by59 : P.bytesOf 59 = 16 := by kernel_rfl
@[go_sem] theorem ze59 : zeroOf P 59 = some (.agg [.int .i64 (0), .int .i64 (0)]) := by kernel_rfl
@[go_sem] theorem fi59_0 : fieldOf P 59 0 = some (0, 1, false) := by kernel_rfl
@[go_sem] theorem fi59_1 : fieldOf P 59 1 = some (1, 1, false) := by kernel_rfl
@[go_sem] theorem pl59 : placesOf P 59 = some (.inr [(0, 1), (1, 1)]) := by kernel_rfl
@[go_sem] theorem ps59 : plainS P 59 = some [0, 0] := by kernel_rfl
noncomputable def b3 : Code := Try.f3.body.getD .skip
noncomputable def r3 (id : Nat) : Code := rg b3 id
noncomputable def b4 : Code := Try.f4.body.getD .skip
noncomputable def r4 (id : Nat) : Code := rg b4 id
def o4_0 : List Lite := [⟨some 3, 0, .box 26 (.tmp 0), none⟩,
 ⟨some 6, 4, .assign (.const (.bool false)), none⟩]
theorem rg4_0 (s : St) : codeX P hints hint4 (r4 0) s = (runL P call hint4 o4_0 s).bind fun s' => some (.normal, prune [1, 2, 3] s') := rg_eq (id := 0) (by kernel_rfl) (by kernel_rfl) s
def o4_1 : List Lite := [⟨some 29, 22, .buildSlice 22 3 #[(0, (.const (.int .i64 (0)))), (1, (.const (.int .i64 (1)))), (2, (.const (.int .i64 (2))))], none⟩,
 ⟨some 7, 22, .assign (.tmp 29), none⟩]
theorem rg4_1 (s : St) : codeX P hints hint4 (r4 1) s = (runL P call hint4 o4_1 s).bind fun s' => some (.normal, prune [1, 2, 3, 7] s') := rg_eq (id := 1) (by kernel_rfl) (by kernel_rfl) s
def o4_2 : List Lite := [⟨some 31, 26, .load 26 (.tmp 3), none⟩,
 ⟨some 32, 27, .move (.tmp 1), none⟩,
 ⟨some 33, 22, .move (.tmp 7), none⟩,
 ⟨some 34, 31, .call { callee := .value (.func 8), args := #[(.tmp 31), (.tmp 32), (.tmp 33)], argTypes := #[26, 27, 22] }, none⟩,
 ⟨some 30, 31, .move (.tmp 34), none⟩,
 ⟨some 35, 26, .extract (.tmp 30) 0, none⟩,
 ⟨some 36, 22, .extract (.tmp 30) 1, none⟩,
 ⟨some 37, 27, .extract (.tmp 30) 2, none⟩,
 ⟨some 38, 30, .extract (.tmp 30) 3, none⟩,
 ⟨some 8, 0, .alloc 26, none⟩,
 ⟨none, 0, .store 26 (.tmp 8) (.tmp 35), none⟩,
 ⟨some 9, 22, .assign (.tmp 36), none⟩,
 ⟨some 10, 27, .assign (.tmp 37), none⟩,
 ⟨some 11, 30, .assign (.tmp 38), none⟩]
theorem rg4_2 (s : St) : codeX P hints hint4 (r4 2) s = (runL P call hint4 o4_2 s).bind fun s' => some (.normal, prune [1, 2, 3, 7, 8, 9, 10, 11] s') := rg_eq (id := 2) (by kernel_rfl) (by kernel_rfl) s
def o4_3 : List Lite := [⟨some 39, 26, .load 26 (.tmp 3), none⟩,
 ⟨some 40, 22, .move (.tmp 7), none⟩,
 ⟨some 41, 4, .call { callee := .value (.func 6), args := #[(.tmp 39), (.tmp 40)], argTypes := #[26, 22] }, none⟩,
 ⟨some 42, 4, .move (.tmp 41), none⟩,
 ⟨some 43, 30, .move (.tmp 11), some (42, false)⟩,
 ⟨some 44, 4, .binOp .neq 30 (.tmp 43) (.const (.int .i64 (0))) 30, some (42, false)⟩,
 ⟨some 45, 4, .pick (.tmp 42) (.const (.bool true)) (.tmp 44), none⟩,
 ⟨some 46, 4, .move (.tmp 45), none⟩,
 ⟨some 47, 0, .fieldAddr 26 (.tmp 3) 0, some (46, false)⟩,
 ⟨some 48, 22, .load 22 (.tmp 47), some (46, false)⟩,
 ⟨some 49, 3, .call { callee := .builtin .len, args := #[(.tmp 48)], argTypes := #[22] }, some (46, false)⟩,
 ⟨some 50, 4, .binOp .eql 3 (.tmp 49) (.const (.int .i64 (0))) 3, some (46, false)⟩,
 ⟨some 51, 4, .pick (.tmp 46) (.const (.bool true)) (.tmp 50), none⟩,
 ⟨some 52, 4, .move (.tmp 51), none⟩,
 ⟨some 53, 37, .move (.tmp 2), some (52, false)⟩,
 ⟨some 54, 3, .call { callee := .builtin .len, args := #[(.tmp 53)], argTypes := #[37] }, some (52, false)⟩,
 ⟨some 55, 4, .binOp .eql 3 (.tmp 54) (.const (.int .i64 (0))) 3, some (52, false)⟩,
 ⟨some 56, 4, .pick (.tmp 52) (.const (.bool true)) (.tmp 55), none⟩]
theorem rg4_3 (s : St) : codeX P hints hint4 (r4 3) s = (runL P call hint4 o4_3 s).bind fun s' => some (.normal, prune [1, 2, 3, 7, 8, 9, 10, 56] s') := rg_eq (id := 3) (by kernel_rfl) (by kernel_rfl) s
def o4_4 : List Lite := [⟨some 57, 4, .call { callee := .value (.func 7), args := #[], argTypes := #[] }, none⟩,
 ⟨some 6, 4, .assign (.tmp 57), none⟩]
theorem rg4_4 (s : St) : codeX P hints hint4 (r4 4) s = (runL P call hint4 o4_4 s).bind fun s' => some (.normal, prune [6] s') := rg_eq (id := 4) (by kernel_rfl) (by kernel_rfl) s
def o4_5 : List Lite := [⟨some 58, 27, .move (.tmp 10), none⟩,
 ⟨some 59, 3, .call { callee := .builtin .len, args := #[(.tmp 58)], argTypes := #[27] }, none⟩,
 ⟨some 60, 22, .move (.tmp 7), none⟩,
 ⟨some 61, 3, .call { callee := .builtin .len, args := #[(.tmp 60)], argTypes := #[22] }, none⟩,
 ⟨some 62, 4, .binOp .neq 3 (.tmp 59) (.tmp 61) 3, none⟩,
 ⟨some 63, 4, .move (.tmp 62), none⟩,
 ⟨some 64, 22, .move (.tmp 9), some (63, false)⟩,
 ⟨some 65, 3, .call { callee := .builtin .len, args := #[(.tmp 64)], argTypes := #[22] }, some (63, false)⟩,
 ⟨some 66, 0, .fieldAddr 26 (.tmp 8) 1, some (63, false)⟩,
 ⟨some 67, 23, .load 23 (.tmp 66), some (63, false)⟩,
 ⟨some 68, 3, .call { callee := .builtin .len, args := #[(.tmp 67)], argTypes := #[23] }, some (63, false)⟩,
 ⟨some 69, 4, .binOp .neq 3 (.tmp 65) (.tmp 68) 3, some (63, false)⟩,
 ⟨some 70, 4, .pick (.tmp 63) (.const (.bool true)) (.tmp 69), none⟩,
 ⟨some 71, 4, .move (.tmp 70), none⟩,
 ⟨some 72, 0, .fieldAddr 26 (.tmp 8) 0, some (71, false)⟩,
 ⟨some 73, 22, .load 22 (.tmp 72), some (71, false)⟩,
 ⟨some 74, 3, .call { callee := .builtin .len, args := #[(.tmp 73)], argTypes := #[22] }, some (71, false)⟩,
 ⟨some 75, 4, .binOp .eql 3 (.tmp 74) (.const (.int .i64 (0))) 3, some (71, false)⟩,
 ⟨some 76, 4, .pick (.tmp 71) (.const (.bool true)) (.tmp 75), none⟩]
theorem rg4_5 (s : St) : codeX P hints hint4 (r4 5) s = (runL P call hint4 o4_5 s).bind fun s' => some (.normal, prune [1, 2, 3, 7, 8, 9, 10, 76] s') := rg_eq (id := 5) (by kernel_rfl) (by kernel_rfl) s
def o4_6 : List Lite := [⟨some 6, 4, .assign (.const (.bool false)), none⟩]
theorem rg4_6 (s : St) : codeX P hints hint4 (r4 6) s = (runL P call hint4 o4_6 s).bind fun s' => some (.normal, prune [6] s') := rg_eq (id := 6) (by kernel_rfl) (by kernel_rfl) s
def o4_7 : List Lite := [⟨some 77, 27, .move (.tmp 10), none⟩,
 ⟨some 78, 3, .call { callee := .builtin .len, args := #[(.tmp 77)], argTypes := #[27] }, none⟩,
 ⟨some 79, 3, .move (.const (.int .i64 (0))), none⟩]
theorem rg4_7 (s : St) : codeX P hints hint4 (r4 7) s = (runL P call hint4 o4_7 s).bind fun s' => some (.normal, prune [1, 2, 3, 7, 8, 9, 10, 77, 78, 79] s') := rg_eq (id := 7) (by kernel_rfl) (by kernel_rfl) s
def o4_8 : List Lite := [⟨some 80, 0, .binOp .lss 3 (.tmp 79) (.tmp 78) 3, none⟩]
theorem rg4_8 (s : St) : codeX P hints hint4 (r4 8) s = (runL P call hint4 o4_8 s).bind fun s' => some (.normal, prune [1, 2, 3, 7, 8, 9, 10, 77, 78, 79, 80] s') := rg_eq (id := 8) (by kernel_rfl) (by kernel_rfl) s
def o4_9 : List Lite := [⟨some 81, 0, .indexAddr 27 (.tmp 77) (.tmp 79), none⟩,
 ⟨some 82, 38, .load 38 (.tmp 81), none⟩,
 ⟨some 13, 38, .assign (.tmp 82), none⟩]
theorem rg4_9 (s : St) : codeX P hints hint4 (r4 9) s = (runL P call hint4 o4_9 s).bind fun s' => some (.normal, prune [1, 2, 3, 7, 8, 9, 10, 13, 77, 78, 79] s') := rg_eq (id := 9) (by kernel_rfl) (by kernel_rfl) s
def o4_10 : List Lite := [⟨some 83, 38, .move (.tmp 13), none⟩,
 ⟨some 84, 3, .call { callee := .builtin .len, args := #[(.tmp 83)], argTypes := #[38] }, none⟩,
 ⟨some 85, 22, .move (.tmp 9), none⟩,
 ⟨some 86, 3, .call { callee := .builtin .len, args := #[(.tmp 85)], argTypes := #[22] }, none⟩,
 ⟨some 87, 4, .binOp .neq 3 (.tmp 84) (.tmp 86) 3, none⟩]
theorem rg4_10 (s : St) : codeX P hints hint4 (r4 10) s = (runL P call hint4 o4_10 s).bind fun s' => some (.normal, prune [1, 2, 3, 7, 8, 9, 10, 77, 78, 79, 87] s') := rg_eq (id := 10) (by kernel_rfl) (by kernel_rfl) s
def o4_11 : List Lite := [⟨some 6, 4, .assign (.const (.bool false)), none⟩]
theorem rg4_11 (s : St) : codeX P hints hint4 (r4 11) s = (runL P call hint4 o4_11 s).bind fun s' => some (.normal, prune [6] s') := rg_eq (id := 11) (by kernel_rfl) (by kernel_rfl) s
def o4_12 : List Lite := [⟨some 88, 3, .binOp .add 3 (.tmp 79) (.const (.int .i64 (1))) 3, none⟩,
 ⟨some 79, 3, .move (.tmp 88), none⟩]
theorem rg4_12 (s : St) : codeX P hints hint4 (r4 12) s = (runL P call hint4 o4_12 s).bind fun s' => some (.normal, prune [1, 2, 3, 7, 8, 9, 10, 77, 78, 79] s') := rg_eq (id := 12) (by kernel_rfl) (by kernel_rfl) s
def o4_13 : List LF := [⟨some 89, none, 0, .fieldAddr 26 (.tmp 3) 0, [3], [], false, false, true, false, true⟩,
 ⟨some 90, none, 22, .load 22 (.tmp 89), [89], [], false, false, true, false, true⟩,
 ⟨some 91, none, 0, .indexAddr 22 (.tmp 90) (.const (.int .i64 (0))), [90], [], false, false, true, false, true⟩,
 ⟨some 92, none, 3, .load 3 (.tmp 91), [91], [], false, false, true, false, true⟩,
 ⟨some 93, none, 0, .fieldAddr 26 (.tmp 8) 0, [8], [], true, false, true, false, true⟩,
 ⟨some 94, none, 22, .load 22 (.tmp 93), [93], [], true, false, true, false, true⟩,
 ⟨some 95, none, 0, .indexAddr 22 (.tmp 94) (.const (.int .i64 (0))), [94], [], true, false, true, false, true⟩,
 ⟨some 96, none, 3, .load 3 (.tmp 95), [95], [], true, false, true, false, true⟩,
 ⟨some 14, none, 3, .assign (.tmp 92), [92], [4, 5, 6, 7], false, true, true, false, false⟩,
 ⟨some 15, none, 3, .assign (.tmp 96), [96], [], false, true, true, false, false⟩]
theorem rg4_13 (s : St) : codeX P hints hint4 (r4 13) s = (runC P call hint4 o4_13 (s, hist0 s) []).bind fun s' => some (.normal, prune [1, 2, 3, 7, 8, 9, 10, 14, 15] s') := rgD_eq (id := 13) (ns := [false, false, false, false, true, true, true, true, false, false]) (us := [[], [], [], [], [], [], [], [], [4, 5, 6, 7], []]) (by kernel_rfl) (by kernel_rfl) s
def o4_14 : List Lite := [⟨some 16, 22, .assign (.const (.slice none 0 0)), none⟩,
 ⟨some 17, 22, .assign (.const (.slice none 0 0)), none⟩,
 ⟨some 18, 22, .assign (.const (.slice none 0 0)), none⟩]
theorem rg4_14 (s : St) : codeX P hints hint4 (r4 14) s = (runL P call hint4 o4_14 s).bind fun s' => some (.normal, prune [1, 2, 3, 7, 8, 9, 10, 14, 15, 16, 17, 18] s') := rg_eq (id := 14) (by kernel_rfl) (by kernel_rfl) s
def o4_15 : List Lite := [⟨some 97, 3, .move (.const (.int .i64 (0))), none⟩]
theorem rg4_15 (s : St) : codeX P hints hint4 (r4 15) s = (runL P call hint4 o4_15 s).bind fun s' => some (.normal, prune [1, 2, 3, 7, 8, 9, 10, 14, 15, 16, 17, 18, 97] s') := rg_eq (id := 15) (by kernel_rfl) (by kernel_rfl) s
def o4_16 : List Lite := [⟨some 98, 4, .binOp .lss 3 (.tmp 97) (.const (.int .i64 (3))) 3, none⟩]
theorem rg4_16 (s : St) : codeX P hints hint4 (r4 16) s = (runL P call hint4 o4_16 s).bind fun s' => some (.normal, prune [1, 2, 3, 7, 8, 9, 10, 14, 15, 16, 17, 18, 97, 98] s') := rg_eq (id := 16) (by kernel_rfl) (by kernel_rfl) s
def o4_17 : List Lite := [⟨some 99, 37, .move (.tmp 2), none⟩,
 ⟨some 100, 3, .call { callee := .builtin .len, args := #[(.tmp 99)], argTypes := #[37] }, none⟩,
 ⟨some 101, 3, .move (.const (.int .i64 (0))), none⟩]
theorem rg4_17 (s : St) : codeX P hints hint4 (r4 17) s = (runL P call hint4 o4_17 s).bind fun s' => some (.normal, prune [1, 2, 3, 7, 8, 9, 10, 14, 15, 16, 17, 18, 97, 99, 100, 101] s') := rg_eq (id := 17) (by kernel_rfl) (by kernel_rfl) s
def o4_18 : List Lite := [⟨some 102, 0, .binOp .lss 3 (.tmp 101) (.tmp 100) 3, none⟩]
theorem rg4_18 (s : St) : codeX P hints hint4 (r4 18) s = (runL P call hint4 o4_18 s).bind fun s' => some (.normal, prune [1, 2, 3, 7, 8, 9, 10, 14, 15, 16, 17, 18, 97, 99, 100, 101, 102] s') := rg_eq (id := 18) (by kernel_rfl) (by kernel_rfl) s
def o4_19 : List Lite := [⟨some 103, 0, .indexAddr 37 (.tmp 99) (.tmp 101), none⟩,
 ⟨some 104, 5, .load 5 (.tmp 103), none⟩,
 ⟨some 20, 5, .assign (.tmp 104), none⟩]
theorem rg4_19 (s : St) : codeX P hints hint4 (r4 19) s = (runL P call hint4 o4_19 s).bind fun s' => some (.normal, prune [1, 2, 3, 7, 8, 9, 10, 14, 15, 16, 17, 18, 20, 97, 99, 100, 101] s') := rg_eq (id := 19) (by kernel_rfl) (by kernel_rfl) s
def o4_20 : List Lite := [⟨some 105, 0, .fieldAddr 26 (.tmp 3) 1, none⟩,
 ⟨some 106, 23, .load 23 (.tmp 105), none⟩,
 ⟨some 107, 3, .move (.tmp 14), none⟩,
 ⟨some 108, 0, .indexAddr 23 (.tmp 106) (.tmp 107), none⟩,
 ⟨some 109, 39, .load 39 (.tmp 108), none⟩,
 ⟨some 110, 3, .call { callee := .builtin .len, args := #[(.tmp 109)], argTypes := #[39] }, none⟩,
 ⟨some 111, 4, .binOp .eql 3 (.tmp 110) (.const (.int .i64 (0))) 3, none⟩]
theorem rg4_20 (s : St) : codeX P hints hint4 (r4 20) s = (runL P call hint4 o4_20 s).bind fun s' => some (.normal, prune [1, 2, 3, 7, 8, 9, 10, 14, 15, 16, 17, 18, 20, 97, 99, 100, 101, 111] s') := rg_eq (id := 20) (by kernel_rfl) (by kernel_rfl) s
def o4_21 : List Lite := [⟨some 112, 4, .call { callee := .value (.func 7), args := #[], argTypes := #[] }, none⟩,
 ⟨some 6, 4, .assign (.tmp 112), none⟩]
theorem rg4_21 (s : St) : codeX P hints hint4 (r4 21) s = (runL P call hint4 o4_21 s).bind fun s' => some (.normal, prune [6] s') := rg_eq (id := 21) (by kernel_rfl) (by kernel_rfl) s
def o4_22 : List Lite := [⟨some 113, 3, .move (.tmp 15), none⟩,
 ⟨some 114, 4, .binOp .lss 3 (.tmp 113) (.const (.int .i64 (0))) 3, none⟩,
 ⟨some 115, 4, .move (.tmp 114), none⟩,
 ⟨some 116, 3, .move (.tmp 15), some (115, false)⟩,
 ⟨some 117, 22, .move (.tmp 9), some (115, false)⟩,
 ⟨some 118, 3, .call { callee := .builtin .len, args := #[(.tmp 117)], argTypes := #[22] }, some (115, false)⟩,
 ⟨some 119, 4, .binOp .geq 3 (.tmp 116) (.tmp 118) 3, some (115, false)⟩,
 ⟨some 120, 4, .pick (.tmp 115) (.const (.bool true)) (.tmp 119), none⟩,
 ⟨some 121, 4, .move (.tmp 120), none⟩,
 ⟨some 122, 22, .move (.tmp 9), some (121, false)⟩,
 ⟨some 123, 3, .move (.tmp 15), some (121, false)⟩,
 ⟨some 124, 0, .indexAddr 22 (.tmp 122) (.tmp 123), some (121, false)⟩,
 ⟨some 125, 3, .load 3 (.tmp 124), some (121, false)⟩,
 ⟨some 126, 3, .move (.tmp 14), some (121, false)⟩,
 ⟨some 127, 4, .binOp .neq 3 (.tmp 125) (.tmp 126) 3, some (121, false)⟩,
 ⟨some 128, 4, .pick (.tmp 121) (.const (.bool true)) (.tmp 127), none⟩,
 ⟨some 129, 4, .move (.tmp 128), none⟩,
 ⟨some 130, 0, .fieldAddr 26 (.tmp 8) 1, some (129, false)⟩,
 ⟨some 131, 23, .load 23 (.tmp 130), some (129, false)⟩,
 ⟨some 132, 3, .move (.tmp 15), some (129, false)⟩,
 ⟨some 133, 0, .indexAddr 23 (.tmp 131) (.tmp 132), some (129, false)⟩,
 ⟨some 134, 39, .load 39 (.tmp 133), some (129, false)⟩,
 ⟨some 135, 3, .call { callee := .builtin .len, args := #[(.tmp 134)], argTypes := #[39] }, some (129, false)⟩,
 ⟨some 136, 0, .fieldAddr 26 (.tmp 3) 1, some (129, false)⟩,
 ⟨some 137, 23, .load 23 (.tmp 136), some (129, false)⟩,
 ⟨some 138, 3, .move (.tmp 14), some (129, false)⟩,
 ⟨some 139, 0, .indexAddr 23 (.tmp 137) (.tmp 138), some (129, false)⟩,
 ⟨some 140, 39, .load 39 (.tmp 139), some (129, false)⟩,
 ⟨some 141, 3, .call { callee := .builtin .len, args := #[(.tmp 140)], argTypes := #[39] }, some (129, false)⟩,
 ⟨some 142, 4, .binOp .neq 3 (.tmp 135) (.tmp 141) 3, some (129, false)⟩,
 ⟨some 143, 4, .pick (.tmp 129) (.const (.bool true)) (.tmp 142), none⟩]
theorem rg4_22 (s : St) : codeX P hints hint4 (r4 22) s = (runL P call hint4 o4_22 s).bind fun s' => some (.normal, prune [1, 2, 3, 7, 8, 9, 10, 14, 15, 16, 17, 18, 20, 97, 99, 100, 101, 143] s') := rg_eq (id := 22) (by kernel_rfl) (by kernel_rfl) s
def o4_23 : List Lite := [⟨some 6, 4, .assign (.const (.bool false)), none⟩]
theorem rg4_23 (s : St) : codeX P hints hint4 (r4 23) s = (runL P call hint4 o4_23 s).bind fun s' => some (.normal, prune [6] s') := rg_eq (id := 23) (by kernel_rfl) (by kernel_rfl) s
def o4_24 : List Lite := [⟨some 144, 5, .move (.tmp 20), none⟩,
 ⟨some 145, 3, .convert 5 3 (.tmp 144), none⟩,
 ⟨some 146, 0, .fieldAddr 26 (.tmp 3) 1, none⟩,
 ⟨some 147, 23, .load 23 (.tmp 146), none⟩,
 ⟨some 148, 3, .move (.tmp 14), none⟩,
 ⟨some 149, 0, .indexAddr 23 (.tmp 147) (.tmp 148), none⟩,
 ⟨some 150, 39, .load 39 (.tmp 149), none⟩,
 ⟨some 151, 3, .call { callee := .builtin .len, args := #[(.tmp 150)], argTypes := #[39] }, none⟩,
 ⟨some 152, 3, .binOp .rem 3 (.tmp 145) (.tmp 151) 3, none⟩,
 ⟨some 21, 3, .assign (.tmp 152), none⟩]
theorem rg4_24 (s : St) : codeX P hints hint4 (r4 24) s = (runL P call hint4 o4_24 s).bind fun s' => some (.normal, prune [1, 2, 3, 7, 8, 9, 10, 14, 15, 16, 17, 18, 21, 97, 99, 100, 101] s') := rg_eq (id := 24) (by kernel_rfl) (by kernel_rfl) s
def o4_25 : List Lite := [⟨some 153, 22, .move (.tmp 16), none⟩,
 ⟨some 154, 3, .move (.tmp 14), none⟩,
 ⟨some 155, 22, .buildSlice 22 1 #[(0, (.tmp 154))], none⟩,
 ⟨some 156, 22, .call { callee := .builtin .append, args := #[(.tmp 153), (.tmp 155)], argTypes := #[22, 22] }, none⟩,
 ⟨some 157, 22, .move (.tmp 17), none⟩,
 ⟨some 158, 3, .move (.tmp 21), none⟩,
 ⟨some 159, 22, .buildSlice 22 1 #[(0, (.tmp 158))], none⟩,
 ⟨some 160, 22, .call { callee := .builtin .append, args := #[(.tmp 157), (.tmp 159)], argTypes := #[22, 22] }, none⟩,
 ⟨some 161, 22, .move (.tmp 18), none⟩,
 ⟨some 162, 3, .move (.tmp 15), none⟩,
 ⟨some 163, 22, .buildSlice 22 1 #[(0, (.tmp 162))], none⟩,
 ⟨some 164, 22, .call { callee := .builtin .append, args := #[(.tmp 161), (.tmp 163)], argTypes := #[22, 22] }, none⟩,
 ⟨some 16, 22, .assign (.tmp 156), none⟩,
 ⟨some 17, 22, .assign (.tmp 160), none⟩,
 ⟨some 18, 22, .assign (.tmp 164), none⟩]
theorem rg4_25 (s : St) : codeX P hints hint4 (r4 25) s = (runL P call hint4 o4_25 s).bind fun s' => some (.normal, prune [1, 2, 3, 7, 8, 9, 10, 14, 15, 16, 17, 18, 21, 97, 99, 100, 101] s') := rg_eq (id := 25) (by kernel_rfl) (by kernel_rfl) s
def o4_26 : List LF := [⟨some 165, none, 0, .fieldAddr 26 (.tmp 3) 1, [3], [], false, false, true, false, true⟩,
 ⟨some 166, none, 23, .load 23 (.tmp 165), [165], [], false, false, true, false, true⟩,
 ⟨some 167, none, 3, .move (.tmp 14), [14], [], false, false, false, false, true⟩,
 ⟨some 168, none, 0, .indexAddr 23 (.tmp 166) (.tmp 167), [166, 167], [], false, false, true, false, true⟩,
 ⟨some 169, none, 39, .load 39 (.tmp 168), [168], [], false, false, true, false, true⟩,
 ⟨some 170, none, 3, .move (.tmp 21), [21], [], false, false, false, false, true⟩,
 ⟨some 171, none, 0, .indexAddr 39 (.tmp 169) (.tmp 170), [169, 170], [], false, false, true, false, true⟩,
 ⟨some 172, none, 0, .fieldAddr 41 (.tmp 171) 0, [171], [], false, false, true, false, true⟩,
 ⟨some 173, none, 3, .load 3 (.tmp 172), [172], [], false, false, true, false, true⟩,
 ⟨some 174, none, 0, .fieldAddr 26 (.tmp 8) 1, [8], [], true, false, true, false, true⟩,
 ⟨some 175, none, 23, .load 23 (.tmp 174), [174], [], true, false, true, false, true⟩,
 ⟨some 176, none, 3, .move (.tmp 15), [15], [], true, false, false, false, true⟩,
 ⟨some 177, none, 0, .indexAddr 23 (.tmp 175) (.tmp 176), [175, 176], [], true, false, true, false, true⟩,
 ⟨some 178, none, 39, .load 39 (.tmp 177), [177], [], true, false, true, false, true⟩,
 ⟨some 179, none, 3, .move (.tmp 21), [21], [], true, false, false, false, true⟩,
 ⟨some 180, none, 0, .indexAddr 39 (.tmp 178) (.tmp 179), [178, 179], [], true, false, true, false, true⟩,
 ⟨some 181, none, 0, .fieldAddr 41 (.tmp 180) 0, [180], [], true, false, true, false, true⟩,
 ⟨some 182, none, 3, .load 3 (.tmp 181), [181], [], true, false, true, false, true⟩,
 ⟨some 14, none, 3, .assign (.tmp 173), [173], [9, 10, 11, 12, 13, 14, 15, 16, 17], false, true, true, false, false⟩,
 ⟨some 15, none, 3, .assign (.tmp 182), [182], [], false, true, true, false, false⟩]
theorem rg4_26 (s : St) : codeX P hints hint4 (r4 26) s = (runC P call hint4 o4_26 (s, hist0 s) []).bind fun s' => some (.normal, prune [1, 2, 3, 7, 8, 9, 10, 14, 15, 16, 17, 18, 97, 99, 100, 101] s') := rgD_eq (id := 26) (ns := [false, false, false, false, false, false, false, false, false, true, true, true, true, true, true, true, true, true, false, false]) (us := [[], [], [], [], [], [], [], [], [], [], [], [], [], [], [], [], [], [], [9, 10, 11, 12, 13, 14, 15, 16, 17], []]) (by kernel_rfl) (by kernel_rfl) s
def o4_27 : List Lite := [⟨some 183, 3, .binOp .add 3 (.tmp 101) (.const (.int .i64 (1))) 3, none⟩,
 ⟨some 101, 3, .move (.tmp 183), none⟩]
theorem rg4_27 (s : St) : codeX P hints hint4 (r4 27) s = (runL P call hint4 o4_27 s).bind fun s' => some (.normal, prune [1, 2, 3, 7, 8, 9, 10, 14, 15, 16, 17, 18, 97, 99, 100, 101] s') := rg_eq (id := 27) (by kernel_rfl) (by kernel_rfl) s
def o4_28 : List Lite := [⟨some 184, 3, .binOp .add 3 (.tmp 97) (.const (.int .i64 (1))) 3, none⟩,
 ⟨some 97, 3, .move (.tmp 184), none⟩]
theorem rg4_28 (s : St) : codeX P hints hint4 (r4 28) s = (runL P call hint4 o4_28 s).bind fun s' => some (.normal, prune [1, 2, 3, 7, 8, 9, 10, 14, 15, 16, 17, 18, 97] s') := rg_eq (id := 28) (by kernel_rfl) (by kernel_rfl) s
def o4_29 : List Lite := [⟨some 185, 22, .move (.tmp 16), none⟩,
 ⟨some 186, 3, .call { callee := .builtin .len, args := #[(.tmp 185)], argTypes := #[22] }, none⟩,
 ⟨some 187, 3, .binOp .sub 3 (.tmp 186) (.const (.int .i64 (1))) 3, none⟩,
 ⟨some 22, 3, .assign (.tmp 187), none⟩]
theorem rg4_29 (s : St) : codeX P hints hint4 (r4 29) s = (runL P call hint4 o4_29 s).bind fun s' => some (.normal, prune [1, 3, 7, 10, 16, 17, 18, 22] s') := rg_eq (id := 29) (by kernel_rfl) (by kernel_rfl) s
def o4_30 : List Lite := [⟨some 188, 3, .move (.tmp 22), none⟩,
 ⟨some 23, 3, .assign (.tmp 188), none⟩]
theorem rg4_30 (s : St) : codeX P hints hint4 (r4 30) s = (runL P call hint4 o4_30 s).bind fun s' => some (.normal, prune [1, 3, 7, 10, 16, 17, 18, 22, 23] s') := rg_eq (id := 30) (by kernel_rfl) (by kernel_rfl) s
def o4_31 : List Lite := [⟨some 189, 3, .move (.tmp 23), none⟩,
 ⟨some 190, 4, .binOp .gtr 3 (.tmp 189) (.const (.int .i64 (0))) 3, none⟩]
theorem rg4_31 (s : St) : codeX P hints hint4 (r4 31) s = (runL P call hint4 o4_31 s).bind fun s' => some (.normal, prune [1, 3, 7, 10, 16, 17, 18, 22, 23, 190] s') := rg_eq (id := 31) (by kernel_rfl) (by kernel_rfl) s
def o4_33 : List Lite := [⟨some 193, 22, .move (.tmp 16), none⟩,
 ⟨some 194, 3, .move (.tmp 23), none⟩,
 ⟨some 195, 3, .binOp .sub 3 (.tmp 194) (.const (.int .i64 (1))) 3, none⟩,
 ⟨some 196, 0, .indexAddr 22 (.tmp 193) (.tmp 195), none⟩,
 ⟨some 197, 3, .load 3 (.tmp 196), none⟩,
 ⟨some 198, 22, .move (.tmp 16), none⟩,
 ⟨some 199, 3, .move (.tmp 22), none⟩,
 ⟨some 200, 0, .indexAddr 22 (.tmp 198) (.tmp 199), none⟩,
 ⟨some 201, 3, .load 3 (.tmp 200), none⟩,
 ⟨some 202, 4, .binOp .neq 3 (.tmp 197) (.tmp 201) 3, none⟩,
 ⟨some 203, 4, .move (.tmp 202), none⟩,
 ⟨some 204, 22, .move (.tmp 18), some (203, false)⟩,
 ⟨some 205, 3, .move (.tmp 23), some (203, false)⟩,
 ⟨some 206, 3, .binOp .sub 3 (.tmp 205) (.const (.int .i64 (1))) 3, some (203, false)⟩,
 ⟨some 207, 0, .indexAddr 22 (.tmp 204) (.tmp 206), some (203, false)⟩,
 ⟨some 208, 3, .load 3 (.tmp 207), some (203, false)⟩,
 ⟨some 209, 22, .move (.tmp 18), some (203, false)⟩,
 ⟨some 210, 3, .move (.tmp 22), some (203, false)⟩,
 ⟨some 211, 0, .indexAddr 22 (.tmp 209) (.tmp 210), some (203, false)⟩,
 ⟨some 212, 3, .load 3 (.tmp 211), some (203, false)⟩,
 ⟨some 213, 4, .binOp .neq 3 (.tmp 208) (.tmp 212) 3, some (203, false)⟩,
 ⟨some 214, 4, .pick (.tmp 203) (.const (.bool true)) (.tmp 213), none⟩]
theorem rg4_33 (s : St) : codeX P hints hint4 (r4 33) s = (runL P call hint4 o4_33 s).bind fun s' => some (.normal, prune [1, 3, 7, 10, 16, 17, 18, 22, 23, 214] s') := rg_eq (id := 33) (by kernel_rfl) (by kernel_rfl) s
def o4_34 : List LF := [⟨some 215, none, 26, .load 26 (.tmp 3), [3], [], false, false, true, false, true⟩,
 ⟨some 216, none, 27, .move (.tmp 1), [1], [], false, false, false, false, true⟩,
 ⟨some 217, none, 22, .move (.tmp 7), [7], [], false, false, false, false, true⟩,
 ⟨some 218, none, 22, .move (.tmp 16), [16], [], false, false, false, false, true⟩,
 ⟨some 219, none, 3, .move (.tmp 23), [23], [], false, false, false, false, true⟩,
 ⟨some 220, none, 3, .binOp .sub 3 (.tmp 219) (.const (.int .i64 (1))) 3, [219], [], false, false, false, false, true⟩,
 ⟨some 221, none, 3, .move (.tmp 22), [22], [], false, false, false, false, true⟩,
 ⟨some 222, none, 22, .slice 22 (.tmp 218) (some (.tmp 220)) (some (.tmp 221)) none, [218, 220, 221], [], false, false, true, false, true⟩,
 ⟨some 223, none, 22, .move (.tmp 17), [17], [], false, false, false, false, true⟩,
 ⟨some 224, none, 3, .move (.tmp 23), [23], [], false, false, false, false, true⟩,
 ⟨some 225, none, 3, .binOp .sub 3 (.tmp 224) (.const (.int .i64 (1))) 3, [224], [], false, false, false, false, true⟩,
 ⟨some 226, none, 3, .move (.tmp 22), [22], [], false, false, false, false, true⟩,
 ⟨some 227, none, 22, .slice 22 (.tmp 223) (some (.tmp 225)) (some (.tmp 226)) none, [223, 225, 226], [], false, false, true, false, true⟩,
 ⟨some 228, none, 38, .call { callee := .value (.func 13), args := #[(.tmp 215), (.tmp 216), (.tmp 217), (.tmp 222), (.tmp 227)], argTypes := #[26, 27, 22, 22, 22] }, [215, 216, 217, 222, 227], [], false, true, true, true, false⟩,
 ⟨some 24, none, 38, .assign (.tmp 228), [228], [], false, true, true, false, false⟩]
theorem rg4_34 (s : St) : codeX P hints hint4 (r4 34) s = (runC P call hint4 o4_34 (s, hist0 s) []).bind fun s' => some (.normal, prune [7, 10, 18, 22, 23, 24] s') := rgD_eq (id := 34) (ns := [false, false, false, false, false, false, false, false, false, false, false, false, false, false, false]) (us := [[], [], [], [], [], [], [], [], [], [], [], [], [], [], []]) (by kernel_rfl) (by kernel_rfl) s
def o4_35 : List Lite := [⟨some 229, 22, .move (.tmp 7), none⟩,
 ⟨some 230, 3, .call { callee := .builtin .len, args := #[(.tmp 229)], argTypes := #[22] }, none⟩,
 ⟨some 231, 3, .move (.const (.int .i64 (0))), none⟩]
theorem rg4_35 (s : St) : codeX P hints hint4 (r4 35) s = (runL P call hint4 o4_35 s).bind fun s' => some (.normal, prune [10, 18, 22, 23, 24, 230, 231] s') := rg_eq (id := 35) (by kernel_rfl) (by kernel_rfl) s
def o4_36 : List Lite := [⟨some 232, 0, .binOp .lss 3 (.tmp 231) (.tmp 230) 3, none⟩]
theorem rg4_36 (s : St) : codeX P hints hint4 (r4 36) s = (runL P call hint4 o4_36 s).bind fun s' => some (.normal, prune [10, 18, 22, 23, 24, 230, 231, 232] s') := rg_eq (id := 36) (by kernel_rfl) (by kernel_rfl) s
def o4_37 : List Lite := [⟨some 233, 3, .move (.tmp 231), none⟩,
 ⟨some 25, 3, .assign (.tmp 233), none⟩]
theorem rg4_37 (s : St) : codeX P hints hint4 (r4 37) s = (runL P call hint4 o4_37 s).bind fun s' => some (.normal, prune [10, 18, 22, 23, 24, 25, 230, 231] s') := rg_eq (id := 37) (by kernel_rfl) (by kernel_rfl) s
def o4_38 : List Lite := [⟨some 26, 4, .assign (.const (.bool false)), none⟩]
theorem rg4_38 (s : St) : codeX P hints hint4 (r4 38) s = (runL P call hint4 o4_38 s).bind fun s' => some (.normal, prune [10, 18, 22, 23, 24, 25, 26, 230, 231] s') := rg_eq (id := 38) (by kernel_rfl) (by kernel_rfl) s
def o4_39 : List Lite := [⟨some 234, 22, .move (.tmp 18), none⟩,
 ⟨some 235, 3, .move (.tmp 23), none⟩,
 ⟨some 236, 3, .binOp .sub 3 (.tmp 235) (.const (.int .i64 (1))) 3, none⟩,
 ⟨some 237, 3, .move (.tmp 22), none⟩,
 ⟨some 238, 22, .slice 22 (.tmp 234) (some (.tmp 236)) (some (.tmp 237)) none, none⟩,
 ⟨some 239, 3, .call { callee := .builtin .len, args := #[(.tmp 238)], argTypes := #[22] }, none⟩,
 ⟨some 240, 3, .move (.const (.int .i64 (0))), none⟩]
theorem rg4_39 (s : St) : codeX P hints hint4 (r4 39) s = (runL P call hint4 o4_39 s).bind fun s' => some (.normal, prune [10, 18, 22, 23, 24, 25, 26, 230, 231, 238, 239, 240] s') := rg_eq (id := 39) (by kernel_rfl) (by kernel_rfl) s
def o4_40 : List Lite := [⟨some 241, 0, .binOp .lss 3 (.tmp 240) (.tmp 239) 3, none⟩]
theorem rg4_40 (s : St) : codeX P hints hint4 (r4 40) s = (runL P call hint4 o4_40 s).bind fun s' => some (.normal, prune [10, 18, 22, 23, 24, 25, 26, 230, 231, 238, 239, 240, 241] s') := rg_eq (id := 40) (by kernel_rfl) (by kernel_rfl) s
def o4_41 : List Lite := [⟨some 242, 0, .indexAddr 22 (.tmp 238) (.tmp 240), none⟩,
 ⟨some 243, 3, .load 3 (.tmp 242), none⟩,
 ⟨some 28, 3, .assign (.tmp 243), none⟩]
theorem rg4_41 (s : St) : codeX P hints hint4 (r4 41) s = (runL P call hint4 o4_41 s).bind fun s' => some (.normal, prune [10, 18, 22, 23, 24, 25, 26, 28, 230, 231, 238, 239, 240] s') := rg_eq (id := 41) (by kernel_rfl) (by kernel_rfl) s
def o4_42 : List Lite := [⟨some 244, 4, .move (.tmp 26), none⟩,
 ⟨some 245, 4, .move (.tmp 244), none⟩,
 ⟨some 246, 27, .move (.tmp 10), some (245, false)⟩,
 ⟨some 247, 3, .move (.tmp 25), some (245, false)⟩,
 ⟨some 248, 0, .indexAddr 27 (.tmp 246) (.tmp 247), some (245, false)⟩,
 ⟨some 249, 38, .load 38 (.tmp 248), some (245, false)⟩,
 ⟨some 250, 3, .move (.tmp 28), some (245, false)⟩,
 ⟨some 251, 0, .indexAddr 38 (.tmp 249) (.tmp 250), some (245, false)⟩,
 ⟨some 252, 4, .load 4 (.tmp 251), some (245, false)⟩,
 ⟨some 253, 4, .pick (.tmp 245) (.const (.bool true)) (.tmp 252), none⟩,
 ⟨some 26, 4, .assign (.tmp 253), none⟩]
theorem rg4_42 (s : St) : codeX P hints hint4 (r4 42) s = (runL P call hint4 o4_42 s).bind fun s' => some (.normal, prune [10, 18, 22, 23, 24, 25, 26, 230, 231, 238, 239, 240] s') := rg_eq (id := 42) (by kernel_rfl) (by kernel_rfl) s
def o4_43 : List Lite := [⟨some 254, 3, .binOp .add 3 (.tmp 240) (.const (.int .i64 (1))) 3, none⟩,
 ⟨some 240, 3, .move (.tmp 254), none⟩]
theorem rg4_43 (s : St) : codeX P hints hint4 (r4 43) s = (runL P call hint4 o4_43 s).bind fun s' => some (.normal, prune [10, 18, 22, 23, 24, 25, 26, 230, 231, 238, 239, 240] s') := rg_eq (id := 43) (by kernel_rfl) (by kernel_rfl) s
def o4_44 : List Lite := [⟨some 255, 4, .move (.tmp 26), none⟩,
 ⟨some 256, 38, .move (.tmp 24), none⟩,
 ⟨some 257, 3, .move (.tmp 25), none⟩,
 ⟨some 258, 0, .indexAddr 38 (.tmp 256) (.tmp 257), none⟩,
 ⟨some 259, 4, .load 4 (.tmp 258), none⟩,
 ⟨some 260, 4, .binOp .neq 4 (.tmp 255) (.tmp 259) 4, none⟩]
theorem rg4_44 (s : St) : codeX P hints hint4 (r4 44) s = (runL P call hint4 o4_44 s).bind fun s' => some (.normal, prune [10, 18, 22, 23, 24, 230, 231, 260] s') := rg_eq (id := 44) (by kernel_rfl) (by kernel_rfl) s
def o4_45 : List Lite := [⟨some 6, 4, .assign (.const (.bool false)), none⟩]
theorem rg4_45 (s : St) : codeX P hints hint4 (r4 45) s = (runL P call hint4 o4_45 s).bind fun s' => some (.normal, prune [6] s') := rg_eq (id := 45) (by kernel_rfl) (by kernel_rfl) s
def o4_46 : List Lite := [⟨some 261, 3, .binOp .add 3 (.tmp 231) (.const (.int .i64 (1))) 3, none⟩,
 ⟨some 231, 3, .move (.tmp 261), none⟩]
theorem rg4_46 (s : St) : codeX P hints hint4 (r4 46) s = (runL P call hint4 o4_46 s).bind fun s' => some (.normal, prune [10, 18, 22, 23, 24, 230, 231] s') := rg_eq (id := 46) (by kernel_rfl) (by kernel_rfl) s
def o4_32 : List Lite := [⟨some 191, 3, .move (.tmp 23), none⟩,
 ⟨some 192, 3, .binOp .sub 3 (.tmp 191) (.const (.int .i64 (1))) 3, none⟩,
 ⟨some 23, 3, .assign (.tmp 192), none⟩]
theorem rg4_32 (s : St) : codeX P hints hint4 (r4 32) s = (runL P call hint4 o4_32 s).bind fun s' => some (.normal, prune [1, 3, 7, 10, 16, 17, 18, 22, 23] s') := rg_eq (id := 32) (by kernel_rfl) (by kernel_rfl) s
def o4_47 : List Lite := [⟨some 262, 4, .call { callee := .value (.func 7), args := #[], argTypes := #[] }, none⟩,
 ⟨some 6, 4, .assign (.tmp 262), none⟩]
theorem rg4_47 (s : St) : codeX P hints hint4 (r4 47) s = (runL P call hint4 o4_47 s).bind fun s' => some (.normal, prune [6] s') := rg_eq (id := 47) (by kernel_rfl) (by kernel_rfl) s
noncomputable def L4_0 : Code := .loop (.seq (r4 8) (.seq (.cond (.tmp 80) .skip (.exit 0)) (.seq (.block 1 (.seq (r4 9) (.seq (r4 10) (.cond (.tmp 87) (.seq (r4 11) .ret) .skip)))) (r4 12))))
noncomputable def L4_1 : Code := .loop (.seq (r4 18) (.seq (.cond (.tmp 102) .skip (.exit 4)) (.seq (.block 5 (.seq (r4 19) (.seq (.seq (r4 20) (.cond (.tmp 111) (.seq (r4 21) .ret) .skip)) (.seq (.seq (r4 22) (.cond (.tmp 143) (.seq (r4 23) .ret) .skip)) (.seq (r4 24) (.seq (r4 25) (r4 26))))))) (r4 27))))
noncomputable def L4_2 : Code := .loop (.seq (r4 16) (.seq (.cond (.tmp 98) .skip (.exit 2)) (.seq (.block 3 (.seq (r4 17) (.block 4 L4_1))) (r4 28))))
noncomputable def L4_3 : Code := .loop (.seq (r4 40) (.seq (.cond (.tmp 241) .skip (.exit 10)) (.seq (.block 11 (.seq (r4 41) (r4 42))) (r4 43))))
noncomputable def L4_4 : Code := .loop (.seq (r4 36) (.seq (.cond (.tmp 232) .skip (.exit 8)) (.seq (.block 9 (.seq (r4 37) (.seq (r4 38) (.seq (.seq (r4 39) (.block 10 L4_3)) (.seq (r4 44) (.cond (.tmp 260) (.seq (r4 45) .ret) .skip)))))) (r4 46))))
noncomputable def L4_5 : Code := .loop (.seq (.seq (r4 31) (.cond (.tmp 190) .skip (.exit 6))) (.seq (.block 7 (.seq (.seq (r4 33) (.cond (.tmp 214) (.exit 7) .skip)) (.seq (r4 34) (.seq (.seq (r4 35) (.block 8 L4_4)) (.exit 6))))) (r4 32)))
theorem eq4 (ds : List D) (H : List Ob) (hl : ds.length = 3) : call 4 ds H = (codeX P hints hint4 (.seq (r4 0) (.seq (r4 1) (.seq (r4 2) (.seq (.seq (r4 3) (.cond (.tmp 56) (.seq (r4 4) .ret) .skip)) (.seq (.seq (r4 5) (.cond (.tmp 76) (.seq (r4 6) .ret) .skip)) (.seq (.seq (r4 7) (.block 0 L4_0)) (.seq (r4 13) (.seq (r4 14) (.seq (.seq (r4 15) (.block 2 L4_2)) (.seq (r4 29) (.seq (.seq (r4 30) (.block 6 L4_5)) (.seq (r4 47) .ret)))))))))))) (enter ds H)).bind (leaveR P false [.tmp 6] H.length) :=
  callX_leave Try.func4 (by kernel_rfl) hl (by kernel_rfl) (by kernel_rfl) rfl
noncomputable def b5 : Code := Try.f5.body.getD .skip
noncomputable def b6 : Code := Try.f6.body.getD .skip
noncomputable def r6 (id : Nat) : Code := rg b6 id
def o6_0 : List Lite := [⟨some 2, 0, .box 26 (.tmp 0), none⟩,
 ⟨some 4, 4, .assign (.const (.bool false)), none⟩]
theorem rg6_0 (s : St) : codeX P hints hint6 (r6 0) s = (runL P call hint6 o6_0 s).bind fun s' => some (.normal, prune [1, 2] s') := rg_eq (id := 0) (by kernel_rfl) (by kernel_rfl) s
def o6_1 : List Lite := [⟨some 8, 0, .fieldAddr 26 (.tmp 2) 1, none⟩,
 ⟨some 9, 23, .load 23 (.tmp 8), none⟩,
 ⟨some 10, 3, .call { callee := .builtin .len, args := #[(.tmp 9)], argTypes := #[23] }, none⟩,
 ⟨some 11, 0, .fieldAddr 26 (.tmp 2) 0, none⟩,
 ⟨some 12, 22, .load 22 (.tmp 11), none⟩,
 ⟨some 13, 3, .call { callee := .builtin .len, args := #[(.tmp 12)], argTypes := #[22] }, none⟩,
 ⟨some 14, 3, .binOp .add 3 (.tmp 10) (.tmp 13) 3, none⟩,
 ⟨some 5, 3, .assign (.tmp 14), none⟩]
theorem rg6_1 (s : St) : codeX P hints hint6 (r6 1) s = (runL P call hint6 o6_1 s).bind fun s' => some (.normal, prune [1, 2, 5] s') := rg_eq (id := 1) (by kernel_rfl) (by kernel_rfl) s
def o6_2 : List Lite := [⟨some 15, 0, .fieldAddr 26 (.tmp 2) 1, none⟩,
 ⟨some 16, 23, .load 23 (.tmp 15), none⟩,
 ⟨some 17, 3, .call { callee := .builtin .len, args := #[(.tmp 16)], argTypes := #[23] }, none⟩,
 ⟨some 18, 3, .move (.const (.int .i64 (0))), none⟩]
theorem rg6_2 (s : St) : codeX P hints hint6 (r6 2) s = (runL P call hint6 o6_2 s).bind fun s' => some (.normal, prune [1, 5, 16, 17, 18] s') := rg_eq (id := 2) (by kernel_rfl) (by kernel_rfl) s
def o6_3 : List Lite := [⟨some 19, 0, .binOp .lss 3 (.tmp 18) (.tmp 17) 3, none⟩]
theorem rg6_3 (s : St) : codeX P hints hint6 (r6 3) s = (runL P call hint6 o6_3 s).bind fun s' => some (.normal, prune [1, 5, 16, 17, 18, 19] s') := rg_eq (id := 3) (by kernel_rfl) (by kernel_rfl) s
def o6_4 : List Lite := [⟨some 20, 0, .indexAddr 23 (.tmp 16) (.tmp 18), none⟩,
 ⟨some 21, 39, .load 39 (.tmp 20), none⟩,
 ⟨some 7, 39, .assign (.tmp 21), none⟩]
theorem rg6_4 (s : St) : codeX P hints hint6 (r6 4) s = (runL P call hint6 o6_4 s).bind fun s' => some (.normal, prune [1, 5, 7, 16, 17, 18] s') := rg_eq (id := 4) (by kernel_rfl) (by kernel_rfl) s
def o6_5 : List Lite := [⟨some 22, 3, .move (.tmp 5), none⟩,
 ⟨some 23, 39, .move (.tmp 7), none⟩,
 ⟨some 24, 3, .call { callee := .builtin .len, args := #[(.tmp 23)], argTypes := #[39] }, none⟩,
 ⟨some 25, 3, .binOp .add 3 (.tmp 22) (.tmp 24) 3, none⟩,
 ⟨some 5, 3, .assign (.tmp 25), none⟩]
theorem rg6_5 (s : St) : codeX P hints hint6 (r6 5) s = (runL P call hint6 o6_5 s).bind fun s' => some (.normal, prune [1, 5, 16, 17, 18] s') := rg_eq (id := 5) (by kernel_rfl) (by kernel_rfl) s
def o6_6 : List Lite := [⟨some 26, 3, .binOp .add 3 (.tmp 18) (.const (.int .i64 (1))) 3, none⟩,
 ⟨some 18, 3, .move (.tmp 26), none⟩]
theorem rg6_6 (s : St) : codeX P hints hint6 (r6 6) s = (runL P call hint6 o6_6 s).bind fun s' => some (.normal, prune [1, 5, 16, 17, 18] s') := rg_eq (id := 6) (by kernel_rfl) (by kernel_rfl) s
def o6_7 : List Lite := [⟨some 27, 3, .move (.tmp 5), none⟩,
 ⟨some 28, 4, .binOp .gtr 3 (.tmp 27) (.const (.int .i64 (400))) 3, none⟩,
 ⟨some 29, 4, .move (.tmp 28), none⟩,
 ⟨some 30, 22, .move (.tmp 1), some (29, false)⟩,
 ⟨some 31, 3, .call { callee := .builtin .len, args := #[(.tmp 30)], argTypes := #[22] }, some (29, false)⟩,
 ⟨some 32, 4, .binOp .gtr 3 (.tmp 31) (.const (.int .i64 (40))) 3, some (29, false)⟩,
 ⟨some 33, 4, .pick (.tmp 29) (.const (.bool true)) (.tmp 32), none⟩,
 ⟨some 4, 4, .assign (.tmp 33), none⟩]
theorem rg6_7 (s : St) : codeX P hints hint6 (r6 7) s = (runL P call hint6 o6_7 s).bind fun s' => some (.normal, prune [4] s') := rg_eq (id := 7) (by kernel_rfl) (by kernel_rfl) s
noncomputable def L6_0 : Code := .loop (.seq (r6 3) (.seq (.cond (.tmp 19) .skip (.exit 0)) (.seq (.block 1 (.seq (r6 4) (r6 5))) (r6 6))))
theorem eq6 (ds : List D) (H : List Ob) (hl : ds.length = 2) : call 6 ds H = (codeX P hints hint6 (.seq (r6 0) (.seq (r6 1) (.seq (.seq (r6 2) (.block 0 L6_0)) (.seq (r6 7) .ret)))) (enter ds H)).bind (leaveR P false [.tmp 4] H.length) :=
  callX_leave Try.func6 (by kernel_rfl) hl (by kernel_rfl) (by kernel_rfl) rfl
noncomputable def b8 : Code := Try.f8.body.getD .skip
noncomputable def r8 (id : Nat) : Code := rg b8 id
def o8_0 : List Lite := [⟨some 3, 0, .box 26 (.tmp 0), none⟩,
 ⟨some 6, 0, .alloc 26, none⟩,
 ⟨some 7, 22, .assign (.const (.slice none 0 0)), none⟩,
 ⟨some 8, 27, .assign (.const (.slice none 0 0)), none⟩,
 ⟨some 9, 30, .assign (.const (.int .i64 (0))), none⟩]
theorem rg8_0 (s : St) : codeX P hints hint8 (r8 0) s = (runL P call hint8 o8_0 s).bind fun s' => some (.normal, prune [1, 2, 3, 6] s') := rg_eq (id := 0) (by kernel_rfl) (by kernel_rfl) s
def o8_1 : List Lite := [⟨some 26, 26, .load 26 (.tmp 3), none⟩,
 ⟨some 27, 30, .call { callee := .value (.func 15), args := #[(.tmp 26)], argTypes := #[26] }, none⟩,
 ⟨some 10, 30, .assign (.tmp 27), none⟩]
theorem rg8_1 (s : St) : codeX P hints hint8 (r8 1) s = (runL P call hint8 o8_1 s).bind fun s' => some (.normal, prune [1, 2, 3, 6, 10] s') := rg_eq (id := 1) (by kernel_rfl) (by kernel_rfl) s
def o8_2 : List Lite := [⟨some 28, 30, .move (.tmp 10), none⟩,
 ⟨some 29, 4, .binOp .neq 30 (.tmp 28) (.const (.int .i64 (0))) 30, none⟩]
theorem rg8_2 (s : St) : codeX P hints hint8 (r8 2) s = (runL P call hint8 o8_2 s).bind fun s' => some (.normal, prune [1, 2, 3, 6, 10, 29] s') := rg_eq (id := 2) (by kernel_rfl) (by kernel_rfl) s
def o8_3 : List Lite := [⟨some 30, 26, .build 26 #[], none⟩,
 ⟨some 31, 30, .move (.tmp 10), none⟩,
 ⟨none, 0, .store 26 (.tmp 6) (.tmp 30), none⟩,
 ⟨some 7, 22, .assign (.const (.slice none 0 0)), none⟩,
 ⟨some 8, 27, .assign (.const (.slice none 0 0)), none⟩,
 ⟨some 9, 30, .assign (.tmp 31), none⟩]
theorem rg8_3 (s : St) : codeX P hints hint8 (r8 3) s = (runL P call hint8 o8_3 s).bind fun s' => some (.normal, prune [6, 7, 8, 9] s') := rg_eq (id := 3) (by kernel_rfl) (by kernel_rfl) s
def o8_4 : List Lite := [⟨some 33, 26, .load 26 (.tmp 3), none⟩,
 ⟨some 34, 27, .move (.tmp 1), none⟩,
 ⟨some 35, 22, .move (.tmp 2), none⟩,
 ⟨some 36, 4, .call { callee := .value (.func 16), args := #[(.tmp 33), (.tmp 34), (.tmp 35)], argTypes := #[26, 27, 22] }, none⟩,
 ⟨some 37, 4, .unOp .not 4 (.tmp 36), none⟩,
 ⟨some 32, 4, .assign (.tmp 37), none⟩]
theorem rg8_4 (s : St) : codeX P hints hint8 (r8 4) s = (runL P call hint8 o8_4 s).bind fun s' => some (.normal, prune [1, 2, 3, 6, 32] s') := rg_eq (id := 4) (by kernel_rfl) (by kernel_rfl) s
def o8_5 : List Lite := [⟨some 38, 26, .build 26 #[], none⟩,
 ⟨none, 0, .store 26 (.tmp 6) (.tmp 38), none⟩,
 ⟨some 7, 22, .assign (.const (.slice none 0 0)), none⟩,
 ⟨some 8, 27, .assign (.const (.slice none 0 0)), none⟩,
 ⟨some 9, 30, .assign (.const (.int .i64 (2))), none⟩]
theorem rg8_5 (s : St) : codeX P hints hint8 (r8 5) s = (runL P call hint8 o8_5 s).bind fun s' => some (.normal, prune [6, 7, 8, 9] s') := rg_eq (id := 5) (by kernel_rfl) (by kernel_rfl) s
def o8_6 : List Lite := [⟨some 40, 22, .move (.tmp 2), none⟩,
 ⟨some 41, 3, .call { callee := .builtin .len, args := #[(.tmp 40)], argTypes := #[22] }, none⟩,
 ⟨some 42, 4, .binOp .gtr 3 (.tmp 41) (.const (.int .i64 (16))) 3, none⟩,
 ⟨some 39, 4, .assign (.tmp 42), none⟩]
theorem rg8_6 (s : St) : codeX P hints hint8 (r8 6) s = (runL P call hint8 o8_6 s).bind fun s' => some (.normal, prune [1, 2, 3, 6, 39] s') := rg_eq (id := 6) (by kernel_rfl) (by kernel_rfl) s
def o8_7 : List Lite := [⟨some 43, 26, .build 26 #[], none⟩,
 ⟨none, 0, .store 26 (.tmp 6) (.tmp 43), none⟩,
 ⟨some 7, 22, .assign (.const (.slice none 0 0)), none⟩,
 ⟨some 8, 27, .assign (.const (.slice none 0 0)), none⟩,
 ⟨some 9, 30, .assign (.const (.int .i64 (11))), none⟩]
theorem rg8_7 (s : St) : codeX P hints hint8 (r8 7) s = (runL P call hint8 o8_7 s).bind fun s' => some (.normal, prune [6, 7, 8, 9] s') := rg_eq (id := 7) (by kernel_rfl) (by kernel_rfl) s
def o8_8 : List Lite := [⟨some 44, 47, .makeMap 47 none, none⟩,
 ⟨some 45, 50, .build 50 #[(0, (.tmp 44))], none⟩,
 ⟨some 46, 46, .box 50 (.tmp 45), none⟩,
 ⟨some 11, 46, .assign (.tmp 46), none⟩]
theorem rg8_8 (s : St) : codeX P hints hint8 (r8 8) s = (runL P call hint8 o8_8 s).bind fun s' => some (.normal, prune [1, 2, 3, 6, 11] s') := rg_eq (id := 8) (by kernel_rfl) (by kernel_rfl) s
def o8_9 : List Lite := [⟨some 47, 46, .move (.tmp 11), none⟩,
 ⟨some 48, 0, .fieldAddr 26 (.tmp 3) 0, none⟩,
 ⟨some 49, 22, .load 22 (.tmp 48), none⟩,
 ⟨some 50, 22, .call { callee := .value (.func 17), args := #[(.tmp 47), (.tmp 49)], argTypes := #[46, 22] }, none⟩,
 ⟨some 51, 26, .build 26 #[(0, (.tmp 50))], none⟩,
 ⟨some 12, 0, .alloc 26, none⟩,
 ⟨none, 0, .store 26 (.tmp 12) (.tmp 51), none⟩]
theorem rg8_9 (s : St) : codeX P hints hint8 (r8 9) s = (runL P call hint8 o8_9 s).bind fun s' => some (.normal, prune [1, 2, 3, 6, 11, 12] s') := rg_eq (id := 9) (by kernel_rfl) (by kernel_rfl) s
def o8_10 : List Lite := [⟨some 13, 3, .assign (.const (.int .i64 (0))), none⟩]
theorem rg8_10 (s : St) : codeX P hints hint8 (r8 10) s = (runL P call hint8 o8_10 s).bind fun s' => some (.normal, prune [1, 2, 3, 6, 11, 12, 13] s') := rg_eq (id := 10) (by kernel_rfl) (by kernel_rfl) s
def o8_11 : List Lite := [⟨some 52, 3, .move (.tmp 13), none⟩,
 ⟨some 53, 46, .move (.tmp 11), none⟩,
 ⟨some 54, 0, .nilCheck (.tmp 53), none⟩,
 ⟨some 55, 0, .fieldAddr 50 (.tmp 54) 1, none⟩,
 ⟨some 56, 48, .load 48 (.tmp 55), none⟩,
 ⟨some 57, 3, .call { callee := .builtin .len, args := #[(.tmp 56)], argTypes := #[48] }, none⟩,
 ⟨some 58, 4, .binOp .lss 3 (.tmp 52) (.tmp 57) 3, none⟩]
theorem rg8_11 (s : St) : codeX P hints hint8 (r8 11) s = (runL P call hint8 o8_11 s).bind fun s' => some (.normal, prune [1, 2, 3, 6, 11, 12, 13, 58] s') := rg_eq (id := 11) (by kernel_rfl) (by kernel_rfl) s
def o8_13 : List Lite := [⟨some 61, 46, .move (.tmp 11), none⟩,
 ⟨some 62, 0, .nilCheck (.tmp 61), none⟩,
 ⟨some 63, 0, .fieldAddr 50 (.tmp 62) 1, none⟩,
 ⟨some 64, 48, .load 48 (.tmp 63), none⟩,
 ⟨some 65, 3, .move (.tmp 13), none⟩,
 ⟨some 66, 0, .indexAddr 48 (.tmp 64) (.tmp 65), none⟩,
 ⟨some 67, 0, .fieldAddr 53 (.tmp 66) 0, none⟩,
 ⟨some 68, 3, .load 3 (.tmp 67), none⟩,
 ⟨some 14, 3, .assign (.tmp 68), none⟩]
theorem rg8_13 (s : St) : codeX P hints hint8 (r8 13) s = (runL P call hint8 o8_13 s).bind fun s' => some (.normal, prune [1, 2, 3, 6, 11, 12, 13, 14] s') := rg_eq (id := 13) (by kernel_rfl) (by kernel_rfl) s
def o8_14 : List Lite := [⟨some 15, 39, .assign (.const (.slice none 0 0)), none⟩]
theorem rg8_14 (s : St) : codeX P hints hint8 (r8 14) s = (runL P call hint8 o8_14 s).bind fun s' => some (.normal, prune [1, 2, 3, 6, 11, 12, 13, 14, 15] s') := rg_eq (id := 14) (by kernel_rfl) (by kernel_rfl) s
def o8_15 : List Lite := [⟨some 69, 0, .fieldAddr 26 (.tmp 3) 1, none⟩,
 ⟨some 70, 23, .load 23 (.tmp 69), none⟩,
 ⟨some 71, 3, .move (.tmp 14), none⟩,
 ⟨some 72, 0, .indexAddr 23 (.tmp 70) (.tmp 71), none⟩,
 ⟨some 73, 39, .load 39 (.tmp 72), none⟩,
 ⟨some 74, 3, .call { callee := .builtin .len, args := #[(.tmp 73)], argTypes := #[39] }, none⟩,
 ⟨some 75, 3, .move (.const (.int .i64 (0))), none⟩]
theorem rg8_15 (s : St) : codeX P hints hint8 (r8 15) s = (runL P call hint8 o8_15 s).bind fun s' => some (.normal, prune [1, 2, 3, 6, 11, 12, 13, 14, 15, 73, 74, 75] s') := rg_eq (id := 15) (by kernel_rfl) (by kernel_rfl) s
def o8_16 : List Lite := [⟨some 76, 0, .binOp .lss 3 (.tmp 75) (.tmp 74) 3, none⟩]
theorem rg8_16 (s : St) : codeX P hints hint8 (r8 16) s = (runL P call hint8 o8_16 s).bind fun s' => some (.normal, prune [1, 2, 3, 6, 11, 12, 13, 14, 15, 73, 74, 75, 76] s') := rg_eq (id := 16) (by kernel_rfl) (by kernel_rfl) s
def o8_17 : List Lite := [⟨some 77, 0, .indexAddr 39 (.tmp 73) (.tmp 75), none⟩,
 ⟨some 78, 41, .load 41 (.tmp 77), none⟩,
 ⟨some 17, 0, .alloc 41, none⟩,
 ⟨none, 0, .store 41 (.tmp 17) (.tmp 78), none⟩]
theorem rg8_17 (s : St) : codeX P hints hint8 (r8 17) s = (runL P call hint8 o8_17 s).bind fun s' => some (.normal, prune [1, 2, 3, 6, 11, 12, 13, 14, 15, 17, 73, 74, 75] s') := rg_eq (id := 17) (by kernel_rfl) (by kernel_rfl) s
def o8_18 : List LF := [⟨some 79, none, 39, .move (.tmp 15), [15], [], true, false, false, false, true⟩,
 ⟨some 80, none, 46, .move (.tmp 11), [11], [], true, false, false, false, true⟩,
 ⟨some 81, none, 0, .fieldAddr 41 (.tmp 17) 0, [17], [], true, false, true, false, true⟩,
 ⟨some 82, none, 3, .load 3 (.tmp 81), [81], [], true, false, true, false, true⟩,
 ⟨some 83, none, 0, .fieldAddr 41 (.tmp 17) 1, [17], [], false, false, true, false, true⟩,
 ⟨some 84, none, 3, .load 3 (.tmp 83), [83], [], false, false, true, false, true⟩,
 ⟨some 85, none, 3, .call { callee := .value (.func 19), args := #[(.tmp 84)], argTypes := #[3] }, [84], [0, 1, 2, 3], true, true, true, true, false⟩,
 ⟨some 86, none, 53, .build 53 #[(0, (.tmp 82)), (1, (.tmp 85))], [82, 85], [], false, false, false, false, true⟩,
 ⟨some 87, none, 3, .call { callee := .value (.func 18), args := #[(.tmp 80), (.tmp 86)], argTypes := #[46, 53] }, [80, 86], [0], true, true, true, true, true⟩,
 ⟨some 88, none, 0, .fieldAddr 41 (.tmp 17) 1, [17], [6, 8], false, false, true, false, true⟩,
 ⟨some 89, none, 3, .load 3 (.tmp 88), [88], [6, 8], false, false, true, false, true⟩,
 ⟨some 90, none, 41, .build 41 #[(0, (.tmp 87)), (1, (.tmp 89))], [87, 89], [], false, false, false, false, true⟩,
 ⟨some 91, none, 39, .buildSlice 39 1 #[(0, (.tmp 90))], [90], [], false, false, true, false, false⟩,
 ⟨some 92, none, 39, .call { callee := .builtin .append, args := #[(.tmp 79), (.tmp 91)], argTypes := #[39, 39] }, [79, 91], [], false, true, true, false, false⟩,
 ⟨some 15, none, 39, .assign (.tmp 92), [92], [], false, true, true, false, false⟩]
theorem rg8_18 (s : St) : codeX P hints hint8 (r8 18) s = (runC P call hint8 o8_18 (s, hist0 s) []).bind fun s' => some (.normal, prune [1, 2, 3, 6, 11, 12, 13, 14, 15, 73, 74, 75] s') := rgD_eq (id := 18) (ns := [true, true, true, true, false, false, true, false, true, false, false, false, false, false, false]) (us := [[], [], [], [], [], [], [0, 1, 2, 3], [], [0], [6, 8], [6, 8], [], [], [], []]) (by kernel_rfl) (by kernel_rfl) s
def o8_19 : List Lite := [⟨some 93, 3, .binOp .add 3 (.tmp 75) (.const (.int .i64 (1))) 3, none⟩,
 ⟨some 75, 3, .move (.tmp 93), none⟩]
theorem rg8_19 (s : St) : codeX P hints hint8 (r8 19) s = (runL P call hint8 o8_19 s).bind fun s' => some (.normal, prune [1, 2, 3, 6, 11, 12, 13, 14, 15, 73, 74, 75] s') := rg_eq (id := 19) (by kernel_rfl) (by kernel_rfl) s
def o8_20 : List Lite := [⟨some 94, 46, .move (.tmp 11), none⟩,
 ⟨some 95, 0, .nilCheck (.tmp 94), none⟩,
 ⟨some 96, 0, .fieldAddr 50 (.tmp 95) 1, none⟩,
 ⟨some 97, 48, .load 48 (.tmp 96), none⟩,
 ⟨some 98, 3, .call { callee := .builtin .len, args := #[(.tmp 97)], argTypes := #[48] }, none⟩,
 ⟨some 99, 4, .binOp .gtr 3 (.tmp 98) (.const (.int .i64 (65536))) 3, none⟩]
theorem rg8_20 (s : St) : codeX P hints hint8 (r8 20) s = (runL P call hint8 o8_20 s).bind fun s' => some (.normal, prune [1, 2, 3, 6, 11, 12, 13, 14, 15, 99] s') := rg_eq (id := 20) (by kernel_rfl) (by kernel_rfl) s
def o8_21 : List Lite := [⟨some 100, 26, .build 26 #[], none⟩,
 ⟨none, 0, .store 26 (.tmp 6) (.tmp 100), none⟩,
 ⟨some 7, 22, .assign (.const (.slice none 0 0)), none⟩,
 ⟨some 8, 27, .assign (.const (.slice none 0 0)), none⟩,
 ⟨some 9, 30, .assign (.const (.int .i64 (11))), none⟩]
theorem rg8_21 (s : St) : codeX P hints hint8 (r8 21) s = (runL P call hint8 o8_21 s).bind fun s' => some (.normal, prune [6, 7, 8, 9] s') := rg_eq (id := 21) (by kernel_rfl) (by kernel_rfl) s
def o8_22 : List Lite := [⟨some 101, 0, .fieldAddr 26 (.tmp 12) 1, none⟩,
 ⟨some 102, 23, .load 23 (.tmp 101), none⟩,
 ⟨some 103, 39, .move (.tmp 15), none⟩,
 ⟨some 104, 23, .buildSlice 23 1 #[(0, (.tmp 103))], none⟩,
 ⟨some 105, 23, .call { callee := .builtin .append, args := #[(.tmp 102), (.tmp 104)], argTypes := #[23, 23] }, none⟩,
 ⟨some 106, 0, .fieldAddr 26 (.tmp 12) 1, none⟩,
 ⟨none, 0, .store 23 (.tmp 106) (.tmp 105), none⟩]
theorem rg8_22 (s : St) : codeX P hints hint8 (r8 22) s = (runL P call hint8 o8_22 s).bind fun s' => some (.normal, prune [1, 2, 3, 6, 11, 12, 13, 14] s') := rg_eq (id := 22) (by kernel_rfl) (by kernel_rfl) s
def o8_23 : List LF := [⟨some 107, none, 0, .fieldAddr 26 (.tmp 12) 2, [12], [], false, false, true, false, true⟩,
 ⟨some 108, none, 24, .load 24 (.tmp 107), [107], [], false, false, true, false, true⟩,
 ⟨some 109, none, 0, .fieldAddr 26 (.tmp 3) 2, [3], [], false, false, true, false, true⟩,
 ⟨some 110, none, 24, .load 24 (.tmp 109), [109], [], false, false, true, false, true⟩,
 ⟨some 111, none, 3, .move (.tmp 14), [14], [], false, false, false, false, true⟩,
 ⟨some 112, none, 0, .indexAddr 24 (.tmp 110) (.tmp 111), [110, 111], [], false, false, true, false, true⟩,
 ⟨some 113, none, 45, .load 45 (.tmp 112), [112], [], false, false, true, false, true⟩,
 ⟨some 114, none, 24, .buildSlice 24 1 #[(0, (.tmp 113))], [113], [], false, false, true, false, false⟩,
 ⟨some 115, none, 24, .call { callee := .builtin .append, args := #[(.tmp 108), (.tmp 114)], argTypes := #[24, 24] }, [108, 114], [], false, true, true, false, false⟩,
 ⟨some 116, none, 0, .fieldAddr 26 (.tmp 12) 2, [12], [], false, false, true, false, true⟩,
 ⟨none, none, 0, .store 24 (.tmp 116) (.tmp 115), [116, 115], [], false, true, true, false, false⟩]
theorem rg8_23 (s : St) : codeX P hints hint8 (r8 23) s = (runC P call hint8 o8_23 (s, hist0 s) []).bind fun s' => some (.normal, prune [1, 2, 3, 6, 11, 12, 13] s') := rgD_eq (id := 23) (ns := [false, false, false, false, false, false, false, false, false, false, false]) (us := [[], [], [], [], [], [], [], [], [], [], []]) (by kernel_rfl) (by kernel_rfl) s
def o8_12 : List Lite := [⟨some 59, 3, .move (.tmp 13), none⟩,
 ⟨some 60, 3, .binOp .add 3 (.tmp 59) (.const (.int .i64 (1))) 3, none⟩,
 ⟨some 13, 3, .assign (.tmp 60), none⟩]
theorem rg8_12 (s : St) : codeX P hints hint8 (r8 12) s = (runL P call hint8 o8_12 s).bind fun s' => some (.normal, prune [1, 2, 3, 6, 11, 12, 13] s') := rg_eq (id := 12) (by kernel_rfl) (by kernel_rfl) s
def o8_24 : List Lite := [⟨some 117, 46, .move (.tmp 11), none⟩,
 ⟨some 118, 0, .nilCheck (.tmp 117), none⟩,
 ⟨some 119, 0, .fieldAddr 50 (.tmp 118) 1, none⟩,
 ⟨some 120, 48, .load 48 (.tmp 119), none⟩,
 ⟨some 121, 3, .call { callee := .builtin .len, args := #[(.tmp 120)], argTypes := #[48] }, none⟩,
 ⟨some 122, 22, .makeSlice 22 (.tmp 121) (.tmp 121), none⟩,
 ⟨some 18, 22, .assign (.tmp 122), none⟩]
theorem rg8_24 (s : St) : codeX P hints hint8 (r8 24) s = (runL P call hint8 o8_24 s).bind fun s' => some (.normal, prune [1, 2, 6, 11, 12, 18] s') := rg_eq (id := 24) (by kernel_rfl) (by kernel_rfl) s
def o8_25 : List Lite := [⟨some 123, 22, .move (.tmp 2), none⟩,
 ⟨some 124, 3, .call { callee := .builtin .len, args := #[(.tmp 123)], argTypes := #[22] }, none⟩,
 ⟨some 125, 27, .makeSlice 27 (.tmp 124) (.tmp 124), none⟩,
 ⟨some 19, 27, .assign (.tmp 125), none⟩]
theorem rg8_25 (s : St) : codeX P hints hint8 (r8 25) s = (runL P call hint8 o8_25 s).bind fun s' => some (.normal, prune [1, 2, 6, 11, 12, 18, 19] s') := rg_eq (id := 25) (by kernel_rfl) (by kernel_rfl) s
def o8_26 : List Lite := [⟨some 126, 22, .move (.tmp 2), none⟩,
 ⟨some 127, 3, .call { callee := .builtin .len, args := #[(.tmp 126)], argTypes := #[22] }, none⟩,
 ⟨some 128, 3, .move (.const (.int .i64 (0))), none⟩]
theorem rg8_26 (s : St) : codeX P hints hint8 (r8 26) s = (runL P call hint8 o8_26 s).bind fun s' => some (.normal, prune [1, 6, 11, 12, 18, 19, 126, 127, 128] s') := rg_eq (id := 26) (by kernel_rfl) (by kernel_rfl) s
def o8_27 : List Lite := [⟨some 129, 0, .binOp .lss 3 (.tmp 128) (.tmp 127) 3, none⟩]
theorem rg8_27 (s : St) : codeX P hints hint8 (r8 27) s = (runL P call hint8 o8_27 s).bind fun s' => some (.normal, prune [1, 6, 11, 12, 18, 19, 126, 127, 128, 129] s') := rg_eq (id := 27) (by kernel_rfl) (by kernel_rfl) s
def o8_28 : List Lite := [⟨some 130, 3, .move (.tmp 128), none⟩,
 ⟨some 131, 0, .indexAddr 22 (.tmp 126) (.tmp 128), none⟩,
 ⟨some 132, 3, .load 3 (.tmp 131), none⟩,
 ⟨some 20, 3, .assign (.tmp 130), none⟩,
 ⟨some 21, 3, .assign (.tmp 132), none⟩]
theorem rg8_28 (s : St) : codeX P hints hint8 (r8 28) s = (runL P call hint8 o8_28 s).bind fun s' => some (.normal, prune [1, 6, 11, 12, 18, 19, 20, 21, 126, 127, 128] s') := rg_eq (id := 28) (by kernel_rfl) (by kernel_rfl) s
def o8_29 : List Lite := [⟨some 133, 27, .move (.tmp 19), none⟩,
 ⟨some 134, 3, .move (.tmp 20), none⟩,
 ⟨some 135, 46, .move (.tmp 11), none⟩,
 ⟨some 136, 0, .nilCheck (.tmp 135), none⟩,
 ⟨some 137, 0, .fieldAddr 50 (.tmp 136) 1, none⟩,
 ⟨some 138, 48, .load 48 (.tmp 137), none⟩,
 ⟨some 139, 3, .call { callee := .builtin .len, args := #[(.tmp 138)], argTypes := #[48] }, none⟩,
 ⟨some 140, 38, .makeSlice 38 (.tmp 139) (.tmp 139), none⟩,
 ⟨some 141, 0, .indexAddr 27 (.tmp 133) (.tmp 134), none⟩,
 ⟨none, 0, .store 38 (.tmp 141) (.tmp 140), none⟩]
theorem rg8_29 (s : St) : codeX P hints hint8 (r8 29) s = (runL P call hint8 o8_29 s).bind fun s' => some (.normal, prune [1, 6, 11, 12, 18, 19, 20, 21, 126, 127, 128] s') := rg_eq (id := 29) (by kernel_rfl) (by kernel_rfl) s
def o8_30 : List Lite := [⟨some 142, 46, .move (.tmp 11), none⟩,
 ⟨some 143, 0, .nilCheck (.tmp 142), none⟩,
 ⟨some 144, 0, .fieldAddr 50 (.tmp 143) 1, none⟩,
 ⟨some 145, 48, .load 48 (.tmp 144), none⟩,
 ⟨some 146, 3, .call { callee := .builtin .len, args := #[(.tmp 145)], argTypes := #[48] }, none⟩,
 ⟨some 147, 3, .move (.const (.int .i64 (0))), none⟩]
theorem rg8_30 (s : St) : codeX P hints hint8 (r8 30) s = (runL P call hint8 o8_30 s).bind fun s' => some (.normal, prune [1, 6, 11, 12, 18, 19, 20, 21, 126, 127, 128, 145, 146, 147] s') := rg_eq (id := 30) (by kernel_rfl) (by kernel_rfl) s
def o8_31 : List Lite := [⟨some 148, 0, .binOp .lss 3 (.tmp 147) (.tmp 146) 3, none⟩]
theorem rg8_31 (s : St) : codeX P hints hint8 (r8 31) s = (runL P call hint8 o8_31 s).bind fun s' => some (.normal, prune [1, 6, 11, 12, 18, 19, 20, 21, 126, 127, 128, 145, 146, 147, 148] s') := rg_eq (id := 31) (by kernel_rfl) (by kernel_rfl) s
def o8_32 : List Lite := [⟨some 149, 3, .move (.tmp 147), none⟩,
 ⟨some 150, 0, .indexAddr 48 (.tmp 145) (.tmp 147), none⟩,
 ⟨some 151, 53, .load 53 (.tmp 150), none⟩,
 ⟨some 23, 0, .alloc 53, none⟩,
 ⟨some 22, 3, .assign (.tmp 149), none⟩,
 ⟨none, 0, .store 53 (.tmp 23) (.tmp 151), none⟩]
theorem rg8_32 (s : St) : codeX P hints hint8 (r8 32) s = (runL P call hint8 o8_32 s).bind fun s' => some (.normal, prune [1, 6, 11, 12, 18, 19, 20, 21, 22, 23, 126, 127, 128, 145, 146, 147] s') := rg_eq (id := 32) (by kernel_rfl) (by kernel_rfl) s
def o8_33 : List LF := [⟨some 152, none, 27, .move (.tmp 19), [19], [], false, false, false, false, true⟩,
 ⟨some 153, none, 3, .move (.tmp 20), [20], [], false, false, false, false, true⟩,
 ⟨some 154, none, 0, .indexAddr 27 (.tmp 152) (.tmp 153), [152, 153], [], false, false, true, false, true⟩,
 ⟨some 155, none, 38, .load 38 (.tmp 154), [154], [], false, false, true, false, true⟩,
 ⟨some 156, none, 3, .move (.tmp 22), [22], [], false, false, false, false, true⟩,
 ⟨some 157, none, 0, .fieldAddr 53 (.tmp 23) 1, [23], [], false, false, true, false, true⟩,
 ⟨some 158, none, 3, .load 3 (.tmp 157), [157], [], false, false, true, false, true⟩,
 ⟨some 159, none, 3, .move (.tmp 21), [21], [], false, false, false, false, true⟩,
 ⟨some 160, none, 4, .binOp .eql 3 (.tmp 158) (.tmp 159) 3, [158, 159], [], false, false, false, false, true⟩,
 ⟨some 161, none, 4, .move (.tmp 160), [160], [], false, false, false, false, true⟩,
 ⟨some 162, some (161, false), 27, .move (.tmp 1), [1, 161], [], false, false, false, false, true⟩,
 ⟨some 163, some (161, false), 0, .fieldAddr 53 (.tmp 23) 0, [23, 161], [], false, false, true, false, true⟩,
 ⟨some 164, some (161, false), 3, .load 3 (.tmp 163), [163, 161], [], false, false, true, false, true⟩,
 ⟨some 165, some (161, false), 0, .indexAddr 27 (.tmp 162) (.tmp 164), [162, 164, 161], [], false, false, true, false, true⟩,
 ⟨some 166, some (161, false), 38, .load 38 (.tmp 165), [165, 161], [], false, false, true, false, true⟩,
 ⟨some 167, some (161, false), 3, .move (.tmp 20), [20, 161], [], false, false, false, false, true⟩,
 ⟨some 168, some (161, false), 0, .indexAddr 38 (.tmp 166) (.tmp 167), [166, 167, 161], [], false, false, true, false, true⟩,
 ⟨some 169, some (161, false), 4, .load 4 (.tmp 168), [168, 161], [], false, false, true, false, true⟩,
 ⟨some 170, some (161, false), 4, .unOp .not 4 (.tmp 169), [169, 161], [], false, false, false, false, true⟩,
 ⟨some 171, none, 4, .pick (.tmp 161) (.const (.bool true)) (.tmp 170), [161, 170], [], false, false, false, false, true⟩,
 ⟨some 172, none, 0, .indexAddr 38 (.tmp 155) (.tmp 156), [155, 156], [], false, false, true, false, true⟩,
 ⟨none, none, 0, .store 4 (.tmp 172) (.tmp 171), [172, 171], [], false, true, true, false, false⟩]
theorem rg8_33 (s : St) : codeX P hints hint8 (r8 33) s = (runC P call hint8 o8_33 (s, hist0 s) []).bind fun s' => some (.normal, prune [1, 6, 11, 12, 18, 19, 20, 21, 126, 127, 128, 145, 146, 147] s') := rgD_eq (id := 33) (ns := [false, false, false, false, false, false, false, false, false, false, false, false, false, false, false, false, false, false, false, false, false, false]) (us := [[], [], [], [], [], [], [], [], [], [], [], [], [], [], [], [], [], [], [], [], [], []]) (by kernel_rfl) (by kernel_rfl) s
def o8_34 : List Lite := [⟨some 173, 3, .binOp .add 3 (.tmp 147) (.const (.int .i64 (1))) 3, none⟩,
 ⟨some 147, 3, .move (.tmp 173), none⟩]
theorem rg8_34 (s : St) : codeX P hints hint8 (r8 34) s = (runL P call hint8 o8_34 s).bind fun s' => some (.normal, prune [1, 6, 11, 12, 18, 19, 20, 21, 126, 127, 128, 145, 146, 147] s') := rg_eq (id := 34) (by kernel_rfl) (by kernel_rfl) s
def o8_35 : List Lite := [⟨some 174, 3, .binOp .add 3 (.tmp 128) (.const (.int .i64 (1))) 3, none⟩,
 ⟨some 128, 3, .move (.tmp 174), none⟩]
theorem rg8_35 (s : St) : codeX P hints hint8 (r8 35) s = (runL P call hint8 o8_35 s).bind fun s' => some (.normal, prune [1, 6, 11, 12, 18, 19, 126, 127, 128] s') := rg_eq (id := 35) (by kernel_rfl) (by kernel_rfl) s
def o8_36 : List Lite := [⟨some 175, 46, .move (.tmp 11), none⟩,
 ⟨some 176, 0, .nilCheck (.tmp 175), none⟩,
 ⟨some 177, 0, .fieldAddr 50 (.tmp 176) 1, none⟩,
 ⟨some 178, 48, .load 48 (.tmp 177), none⟩,
 ⟨some 179, 3, .call { callee := .builtin .len, args := #[(.tmp 178)], argTypes := #[48] }, none⟩,
 ⟨some 180, 3, .move (.const (.int .i64 (0))), none⟩]
theorem rg8_36 (s : St) : codeX P hints hint8 (r8 36) s = (runL P call hint8 o8_36 s).bind fun s' => some (.normal, prune [6, 12, 18, 19, 178, 179, 180] s') := rg_eq (id := 36) (by kernel_rfl) (by kernel_rfl) s
def o8_37 : List Lite := [⟨some 181, 0, .binOp .lss 3 (.tmp 180) (.tmp 179) 3, none⟩]
theorem rg8_37 (s : St) : codeX P hints hint8 (r8 37) s = (runL P call hint8 o8_37 s).bind fun s' => some (.normal, prune [6, 12, 18, 19, 178, 179, 180, 181] s') := rg_eq (id := 37) (by kernel_rfl) (by kernel_rfl) s
def o8_38 : List Lite := [⟨some 182, 3, .move (.tmp 180), none⟩,
 ⟨some 183, 0, .indexAddr 48 (.tmp 178) (.tmp 180), none⟩,
 ⟨some 184, 53, .load 53 (.tmp 183), none⟩,
 ⟨some 25, 0, .alloc 53, none⟩,
 ⟨some 24, 3, .assign (.tmp 182), none⟩,
 ⟨none, 0, .store 53 (.tmp 25) (.tmp 184), none⟩]
theorem rg8_38 (s : St) : codeX P hints hint8 (r8 38) s = (runL P call hint8 o8_38 s).bind fun s' => some (.normal, prune [6, 12, 18, 19, 24, 25, 178, 179, 180] s') := rg_eq (id := 38) (by kernel_rfl) (by kernel_rfl) s
def o8_39 : List Lite := [⟨some 185, 22, .move (.tmp 18), none⟩,
 ⟨some 186, 3, .move (.tmp 24), none⟩,
 ⟨some 187, 0, .fieldAddr 53 (.tmp 25) 0, none⟩,
 ⟨some 188, 3, .load 3 (.tmp 187), none⟩,
 ⟨some 189, 0, .indexAddr 22 (.tmp 185) (.tmp 186), none⟩,
 ⟨none, 0, .store 3 (.tmp 189) (.tmp 188), none⟩]
theorem rg8_39 (s : St) : codeX P hints hint8 (r8 39) s = (runL P call hint8 o8_39 s).bind fun s' => some (.normal, prune [6, 12, 18, 19, 178, 179, 180] s') := rg_eq (id := 39) (by kernel_rfl) (by kernel_rfl) s
def o8_40 : List Lite := [⟨some 190, 3, .binOp .add 3 (.tmp 180) (.const (.int .i64 (1))) 3, none⟩,
 ⟨some 180, 3, .move (.tmp 190), none⟩]
theorem rg8_40 (s : St) : codeX P hints hint8 (r8 40) s = (runL P call hint8 o8_40 s).bind fun s' => some (.normal, prune [6, 12, 18, 19, 178, 179, 180] s') := rg_eq (id := 40) (by kernel_rfl) (by kernel_rfl) s
def o8_41 : List Lite := [⟨some 191, 26, .load 26 (.tmp 12), none⟩,
 ⟨some 192, 22, .move (.tmp 18), none⟩,
 ⟨some 193, 27, .move (.tmp 19), none⟩,
 ⟨none, 0, .store 26 (.tmp 6) (.tmp 191), none⟩,
 ⟨some 7, 22, .assign (.tmp 192), none⟩,
 ⟨some 8, 27, .assign (.tmp 193), none⟩,
 ⟨some 9, 30, .assign (.const (.int .i64 (0))), none⟩]
theorem rg8_41 (s : St) : codeX P hints hint8 (r8 41) s = (runL P call hint8 o8_41 s).bind fun s' => some (.normal, prune [6, 7, 8, 9] s') := rg_eq (id := 41) (by kernel_rfl) (by kernel_rfl) s
noncomputable def L8_0 : Code := .loop (.seq (r8 16) (.seq (.cond (.tmp 76) .skip (.exit 3)) (.seq (.block 4 (.seq (r8 17) (r8 18))) (r8 19))))
noncomputable def L8_1 : Code := .loop (.seq (.seq (r8 11) (.cond (.tmp 58) .skip (.exit 1))) (.seq (.block 2 (.seq (r8 13) (.seq (r8 14) (.seq (.seq (r8 15) (.block 3 L8_0)) (.seq (.seq (r8 20) (.cond (.tmp 99) (.seq (r8 21) .ret) .skip)) (.seq (r8 22) (r8 23))))))) (r8 12)))
noncomputable def L8_2 : Code := .loop (.seq (r8 31) (.seq (.cond (.tmp 148) .skip (.exit 7)) (.seq (.block 8 (.seq (r8 32) (r8 33))) (r8 34))))
noncomputable def L8_3 : Code := .loop (.seq (r8 27) (.seq (.cond (.tmp 129) .skip (.exit 5)) (.seq (.block 6 (.seq (r8 28) (.seq (r8 29) (.seq (r8 30) (.block 7 L8_2))))) (r8 35))))
noncomputable def L8_4 : Code := .loop (.seq (r8 37) (.seq (.cond (.tmp 181) .skip (.exit 9)) (.seq (.block 10 (.seq (r8 38) (r8 39))) (r8 40))))
theorem eq8 (ds : List D) (H : List Ob) (hl : ds.length = 3) : call 8 ds H = (codeX P hints hint8 (.seq (r8 0) (.seq (.seq (r8 1) (.seq (r8 2) (.cond (.tmp 29) (.seq (r8 3) .ret) .skip))) (.seq (.block 0 (.seq (r8 4) (.cond (.tmp 32) (.seq (r8 5) .ret) (.seq (r8 6) (.cond (.tmp 39) (.seq (r8 7) .ret) .skip))))) (.seq (r8 8) (.seq (r8 9) (.seq (.seq (r8 10) (.block 1 L8_1)) (.seq (r8 24) (.seq (r8 25) (.seq (.seq (r8 26) (.block 5 L8_3)) (.seq (.seq (r8 36) (.block 9 L8_4)) (.seq (r8 41) .ret))))))))))) (enter ds H)).bind (leaveR P false [.cell 6 26, .tmp 7, .tmp 8, .tmp 9] H.length) :=
  callX_leave Try.func8 (by kernel_rfl) hl (by kernel_rfl) (by kernel_rfl) rfl
noncomputable def b9 : Code := Try.f9.body.getD .skip
noncomputable def r9 (id : Nat) : Code := rg b9 id
def o9_0 : List Lite := [⟨some 3, 0, .box 26 (.tmp 0), none⟩,
 ⟨some 6, 0, .alloc 26, none⟩,
 ⟨some 7, 22, .assign (.const (.slice none 0 0)), none⟩,
 ⟨some 8, 27, .assign (.const (.slice none 0 0)), none⟩,
 ⟨some 9, 30, .assign (.const (.int .i64 (0))), none⟩]
theorem rg9_0 (s : St) : codeX P hints hint9 (r9 0) s = (runL P call hint9 o9_0 s).bind fun s' => some (.normal, prune [1, 2, 3, 6] s') := rg_eq (id := 0) (by kernel_rfl) (by kernel_rfl) s
def o9_1 : List Lite := [⟨some 26, 26, .load 26 (.tmp 3), none⟩,
 ⟨some 27, 30, .call { callee := .value (.func 14), args := #[(.tmp 26)], argTypes := #[26] }, none⟩,
 ⟨some 10, 30, .assign (.tmp 27), none⟩]
theorem rg9_1 (s : St) : codeX P hints hint9 (r9 1) s = (runL P call hint9 o9_1 s).bind fun s' => some (.normal, prune [1, 2, 3, 6, 10] s') := rg_eq (id := 1) (by kernel_rfl) (by kernel_rfl) s
def o9_2 : List Lite := [⟨some 28, 30, .move (.tmp 10), none⟩,
 ⟨some 29, 4, .binOp .neq 30 (.tmp 28) (.const (.int .i64 (0))) 30, none⟩]
theorem rg9_2 (s : St) : codeX P hints hint9 (r9 2) s = (runL P call hint9 o9_2 s).bind fun s' => some (.normal, prune [1, 2, 3, 6, 10, 29] s') := rg_eq (id := 2) (by kernel_rfl) (by kernel_rfl) s
def o9_3 : List Lite := [⟨some 30, 26, .build 26 #[], none⟩,
 ⟨some 31, 30, .move (.tmp 10), none⟩,
 ⟨none, 0, .store 26 (.tmp 6) (.tmp 30), none⟩,
 ⟨some 7, 22, .assign (.const (.slice none 0 0)), none⟩,
 ⟨some 8, 27, .assign (.const (.slice none 0 0)), none⟩,
 ⟨some 9, 30, .assign (.tmp 31), none⟩]
theorem rg9_3 (s : St) : codeX P hints hint9 (r9 3) s = (runL P call hint9 o9_3 s).bind fun s' => some (.normal, prune [6, 7, 8, 9] s') := rg_eq (id := 3) (by kernel_rfl) (by kernel_rfl) s
def o9_4 : List Lite := [⟨some 32, 27, .move (.tmp 1), none⟩,
 ⟨some 33, 0, .fieldAddr 26 (.tmp 3) 1, none⟩,
 ⟨some 34, 23, .load 23 (.tmp 33), none⟩,
 ⟨some 35, 3, .call { callee := .builtin .len, args := #[(.tmp 34)], argTypes := #[23] }, none⟩,
 ⟨some 36, 22, .move (.tmp 2), none⟩,
 ⟨some 37, 3, .call { callee := .builtin .len, args := #[(.tmp 36)], argTypes := #[22] }, none⟩,
 ⟨some 38, 4, .call { callee := .value (.func 20), args := #[(.tmp 32), (.tmp 35), (.tmp 37)], argTypes := #[27, 3, 3] }, none⟩,
 ⟨some 39, 4, .unOp .not 4 (.tmp 38), none⟩]
theorem rg9_4 (s : St) : codeX P hints hint9 (r9 4) s = (runL P call hint9 o9_4 s).bind fun s' => some (.normal, prune [1, 2, 3, 6, 39] s') := rg_eq (id := 4) (by kernel_rfl) (by kernel_rfl) s
def o9_5 : List Lite := [⟨some 40, 26, .build 26 #[], none⟩,
 ⟨none, 0, .store 26 (.tmp 6) (.tmp 40), none⟩,
 ⟨some 7, 22, .assign (.const (.slice none 0 0)), none⟩,
 ⟨some 8, 27, .assign (.const (.slice none 0 0)), none⟩,
 ⟨some 9, 30, .assign (.const (.int .i64 (2))), none⟩]
theorem rg9_5 (s : St) : codeX P hints hint9 (r9 5) s = (runL P call hint9 o9_5 s).bind fun s' => some (.normal, prune [6, 7, 8, 9] s') := rg_eq (id := 5) (by kernel_rfl) (by kernel_rfl) s
def o9_6 : List Lite := [⟨some 41, 22, .move (.tmp 2), none⟩,
 ⟨some 42, 3, .call { callee := .builtin .len, args := #[(.tmp 41)], argTypes := #[22] }, none⟩,
 ⟨some 43, 4, .binOp .gtr 3 (.tmp 42) (.const (.int .i64 (16))) 3, none⟩]
theorem rg9_6 (s : St) : codeX P hints hint9 (r9 6) s = (runL P call hint9 o9_6 s).bind fun s' => some (.normal, prune [1, 2, 3, 6, 43] s') := rg_eq (id := 6) (by kernel_rfl) (by kernel_rfl) s
def o9_7 : List Lite := [⟨some 44, 26, .build 26 #[], none⟩,
 ⟨none, 0, .store 26 (.tmp 6) (.tmp 44), none⟩,
 ⟨some 7, 22, .assign (.const (.slice none 0 0)), none⟩,
 ⟨some 8, 27, .assign (.const (.slice none 0 0)), none⟩,
 ⟨some 9, 30, .assign (.const (.int .i64 (11))), none⟩]
theorem rg9_7 (s : St) : codeX P hints hint9 (r9 7) s = (runL P call hint9 o9_7 s).bind fun s' => some (.normal, prune [6, 7, 8, 9] s') := rg_eq (id := 7) (by kernel_rfl) (by kernel_rfl) s
def o9_8 : List Lite := [⟨some 11, 57, .assign (.const (.slice none 0 0)), none⟩]
theorem rg9_8 (s : St) : codeX P hints hint9 (r9 8) s = (runL P call hint9 o9_8 s).bind fun s' => some (.normal, prune [1, 2, 3, 6, 11] s') := rg_eq (id := 8) (by kernel_rfl) (by kernel_rfl) s
def o9_9 : List Lite := [⟨some 12, 0, .alloc 26, none⟩]
theorem rg9_9 (s : St) : codeX P hints hint9 (r9 9) s = (runL P call hint9 o9_9 s).bind fun s' => some (.normal, prune [1, 2, 3, 6, 11, 12] s') := rg_eq (id := 9) (by kernel_rfl) (by kernel_rfl) s
def o9_10 : List Lite := [⟨some 13, 3, .assign (.const (.int .i64 (0))), none⟩]
theorem rg9_10 (s : St) : codeX P hints hint9 (r9 10) s = (runL P call hint9 o9_10 s).bind fun s' => some (.normal, prune [1, 2, 3, 6, 11, 12, 13] s') := rg_eq (id := 10) (by kernel_rfl) (by kernel_rfl) s
def o9_11 : List Lite := [⟨some 45, 3, .move (.tmp 13), none⟩,
 ⟨some 46, 0, .fieldAddr 26 (.tmp 3) 0, none⟩,
 ⟨some 47, 22, .load 22 (.tmp 46), none⟩,
 ⟨some 48, 3, .call { callee := .builtin .len, args := #[(.tmp 47)], argTypes := #[22] }, none⟩,
 ⟨some 49, 4, .binOp .lss 3 (.tmp 45) (.tmp 48) 3, none⟩]
theorem rg9_11 (s : St) : codeX P hints hint9 (r9 11) s = (runL P call hint9 o9_11 s).bind fun s' => some (.normal, prune [1, 2, 3, 6, 11, 12, 13, 49] s') := rg_eq (id := 11) (by kernel_rfl) (by kernel_rfl) s
def o9_13 : List Lite := [⟨some 52, 0, .fieldAddr 26 (.tmp 3) 0, none⟩,
 ⟨some 53, 22, .load 22 (.tmp 52), none⟩,
 ⟨some 54, 3, .move (.tmp 13), none⟩,
 ⟨some 55, 0, .indexAddr 22 (.tmp 53) (.tmp 54), none⟩,
 ⟨some 56, 3, .load 3 (.tmp 55), none⟩,
 ⟨some 57, 59, .build 59 #[(0, (.tmp 56)), (1, (.const (.int .i64 (-1))))], none⟩,
 ⟨some 14, 0, .alloc 59, none⟩,
 ⟨none, 0, .store 59 (.tmp 14) (.tmp 57), none⟩]
theorem rg9_13 (s : St) : codeX P hints hint9 (r9 13) s = (runL P call hint9 o9_13 s).bind fun s' => some (.normal, prune [1, 2, 3, 6, 11, 12, 13, 14] s') := rg_eq (id := 13) (by kernel_rfl) (by kernel_rfl) s
def o9_14 : List Lite := [⟨some 58, 57, .move (.tmp 11), none⟩,
 ⟨some 59, 59, .load 59 (.tmp 14), none⟩,
 ⟨some 60, 3, .call { callee := .value (.func 21), args := #[(.tmp 58), (.tmp 59)], argTypes := #[57, 59] }, none⟩,
 ⟨some 61, 4, .binOp .lss 3 (.tmp 60) (.const (.int .i64 (0))) 3, none⟩]
theorem rg9_14 (s : St) : codeX P hints hint9 (r9 14) s = (runL P call hint9 o9_14 s).bind fun s' => some (.normal, prune [1, 2, 3, 6, 11, 12, 13, 14, 61] s') := rg_eq (id := 14) (by kernel_rfl) (by kernel_rfl) s
def o9_15 : List Lite := [⟨some 62, 0, .fieldAddr 26 (.tmp 12) 0, none⟩,
 ⟨some 63, 22, .load 22 (.tmp 62), none⟩,
 ⟨some 64, 57, .move (.tmp 11), none⟩,
 ⟨some 65, 3, .call { callee := .builtin .len, args := #[(.tmp 64)], argTypes := #[57] }, none⟩,
 ⟨some 66, 22, .buildSlice 22 1 #[(0, (.tmp 65))], none⟩,
 ⟨some 67, 22, .call { callee := .builtin .append, args := #[(.tmp 63), (.tmp 66)], argTypes := #[22, 22] }, none⟩,
 ⟨some 68, 0, .fieldAddr 26 (.tmp 12) 0, none⟩,
 ⟨none, 0, .store 22 (.tmp 68) (.tmp 67), none⟩]
theorem rg9_15 (s : St) : codeX P hints hint9 (r9 15) s = (runL P call hint9 o9_15 s).bind fun s' => some (.normal, prune [1, 2, 3, 6, 11, 12, 13, 14] s') := rg_eq (id := 15) (by kernel_rfl) (by kernel_rfl) s
def o9_16 : List Lite := [⟨some 69, 57, .move (.tmp 11), none⟩,
 ⟨some 70, 59, .load 59 (.tmp 14), none⟩,
 ⟨some 71, 57, .buildSlice 57 1 #[(0, (.tmp 70))], none⟩,
 ⟨some 72, 57, .call { callee := .builtin .append, args := #[(.tmp 69), (.tmp 71)], argTypes := #[57, 57] }, none⟩,
 ⟨some 11, 57, .assign (.tmp 72), none⟩]
theorem rg9_16 (s : St) : codeX P hints hint9 (r9 16) s = (runL P call hint9 o9_16 s).bind fun s' => some (.normal, prune [1, 2, 3, 6, 11, 12, 13] s') := rg_eq (id := 16) (by kernel_rfl) (by kernel_rfl) s
def o9_12 : List Lite := [⟨some 50, 3, .move (.tmp 13), none⟩,
 ⟨some 51, 3, .binOp .add 3 (.tmp 50) (.const (.int .i64 (1))) 3, none⟩,
 ⟨some 13, 3, .assign (.tmp 51), none⟩]
theorem rg9_12 (s : St) : codeX P hints hint9 (r9 12) s = (runL P call hint9 o9_12 s).bind fun s' => some (.normal, prune [1, 2, 3, 6, 11, 12, 13] s') := rg_eq (id := 12) (by kernel_rfl) (by kernel_rfl) s
def o9_17 : List Lite := [⟨some 15, 22, .assign (.const (.slice none 0 0)), none⟩]
theorem rg9_17 (s : St) : codeX P hints hint9 (r9 17) s = (runL P call hint9 o9_17 s).bind fun s' => some (.normal, prune [1, 2, 3, 6, 11, 12, 15] s') := rg_eq (id := 17) (by kernel_rfl) (by kernel_rfl) s
def o9_18 : List Lite := [⟨some 16, 3, .assign (.const (.int .i64 (0))), none⟩]
theorem rg9_18 (s : St) : codeX P hints hint9 (r9 18) s = (runL P call hint9 o9_18 s).bind fun s' => some (.normal, prune [1, 2, 3, 6, 11, 12, 15, 16] s') := rg_eq (id := 18) (by kernel_rfl) (by kernel_rfl) s
def o9_19 : List Lite := [⟨some 73, 3, .move (.tmp 16), none⟩,
 ⟨some 74, 57, .move (.tmp 11), none⟩,
 ⟨some 75, 3, .call { callee := .builtin .len, args := #[(.tmp 74)], argTypes := #[57] }, none⟩,
 ⟨some 76, 4, .binOp .lss 3 (.tmp 73) (.tmp 75) 3, none⟩]
theorem rg9_19 (s : St) : codeX P hints hint9 (r9 19) s = (runL P call hint9 o9_19 s).bind fun s' => some (.normal, prune [1, 2, 3, 6, 11, 12, 15, 16, 76] s') := rg_eq (id := 19) (by kernel_rfl) (by kernel_rfl) s
def o9_21 : List Lite := [⟨some 79, 57, .move (.tmp 11), none⟩,
 ⟨some 80, 3, .call { callee := .builtin .len, args := #[(.tmp 79)], argTypes := #[57] }, none⟩,
 ⟨some 81, 4, .binOp .gtr 3 (.tmp 80) (.const (.int .i64 (65536))) 3, none⟩]
theorem rg9_21 (s : St) : codeX P hints hint9 (r9 21) s = (runL P call hint9 o9_21 s).bind fun s' => some (.normal, prune [1, 2, 3, 6, 11, 12, 15, 16, 81] s') := rg_eq (id := 21) (by kernel_rfl) (by kernel_rfl) s
def o9_22 : List Lite := [⟨some 82, 26, .build 26 #[], none⟩,
 ⟨none, 0, .store 26 (.tmp 6) (.tmp 82), none⟩,
 ⟨some 7, 22, .assign (.const (.slice none 0 0)), none⟩,
 ⟨some 8, 27, .assign (.const (.slice none 0 0)), none⟩,
 ⟨some 9, 30, .assign (.const (.int .i64 (11))), none⟩]
theorem rg9_22 (s : St) : codeX P hints hint9 (r9 22) s = (runL P call hint9 o9_22 s).bind fun s' => some (.normal, prune [6, 7, 8, 9] s') := rg_eq (id := 22) (by kernel_rfl) (by kernel_rfl) s
def o9_23 : List Lite := [⟨some 83, 57, .move (.tmp 11), none⟩,
 ⟨some 84, 3, .move (.tmp 16), none⟩,
 ⟨some 85, 0, .indexAddr 57 (.tmp 83) (.tmp 84), none⟩,
 ⟨some 86, 0, .fieldAddr 59 (.tmp 85) 0, none⟩,
 ⟨some 87, 3, .load 3 (.tmp 86), none⟩,
 ⟨some 17, 3, .assign (.tmp 87), none⟩]
theorem rg9_23 (s : St) : codeX P hints hint9 (r9 23) s = (runL P call hint9 o9_23 s).bind fun s' => some (.normal, prune [1, 2, 3, 6, 11, 12, 15, 16, 17] s') := rg_eq (id := 23) (by kernel_rfl) (by kernel_rfl) s
def o9_24 : List Lite := [⟨some 18, 39, .assign (.const (.slice none 0 0)), none⟩]
theorem rg9_24 (s : St) : codeX P hints hint9 (r9 24) s = (runL P call hint9 o9_24 s).bind fun s' => some (.normal, prune [1, 2, 3, 6, 11, 12, 15, 16, 17, 18] s') := rg_eq (id := 24) (by kernel_rfl) (by kernel_rfl) s
def o9_25 : List Lite := [⟨some 19, 3, .assign (.const (.int .i64 (0))), none⟩]
theorem rg9_25 (s : St) : codeX P hints hint9 (r9 25) s = (runL P call hint9 o9_25 s).bind fun s' => some (.normal, prune [1, 2, 3, 6, 11, 12, 15, 16, 17, 18, 19] s') := rg_eq (id := 25) (by kernel_rfl) (by kernel_rfl) s
def o9_26 : List Lite := [⟨some 88, 3, .move (.tmp 19), none⟩,
 ⟨some 89, 0, .fieldAddr 26 (.tmp 3) 1, none⟩,
 ⟨some 90, 23, .load 23 (.tmp 89), none⟩,
 ⟨some 91, 3, .move (.tmp 17), none⟩,
 ⟨some 92, 0, .indexAddr 23 (.tmp 90) (.tmp 91), none⟩,
 ⟨some 93, 39, .load 39 (.tmp 92), none⟩,
 ⟨some 94, 3, .call { callee := .builtin .len, args := #[(.tmp 93)], argTypes := #[39] }, none⟩,
 ⟨some 95, 4, .binOp .lss 3 (.tmp 88) (.tmp 94) 3, none⟩]
theorem rg9_26 (s : St) : codeX P hints hint9 (r9 26) s = (runL P call hint9 o9_26 s).bind fun s' => some (.normal, prune [1, 2, 3, 6, 11, 12, 15, 16, 17, 18, 19, 95] s') := rg_eq (id := 26) (by kernel_rfl) (by kernel_rfl) s
def o9_28 : List Lite := [⟨some 98, 0, .fieldAddr 26 (.tmp 3) 1, none⟩,
 ⟨some 99, 23, .load 23 (.tmp 98), none⟩,
 ⟨some 100, 3, .move (.tmp 17), none⟩,
 ⟨some 101, 0, .indexAddr 23 (.tmp 99) (.tmp 100), none⟩,
 ⟨some 102, 39, .load 39 (.tmp 101), none⟩,
 ⟨some 103, 3, .move (.tmp 19), none⟩,
 ⟨some 104, 0, .indexAddr 39 (.tmp 102) (.tmp 103), none⟩,
 ⟨some 105, 41, .load 41 (.tmp 104), none⟩,
 ⟨some 20, 0, .alloc 41, none⟩,
 ⟨none, 0, .store 41 (.tmp 20) (.tmp 105), none⟩]
theorem rg9_28 (s : St) : codeX P hints hint9 (r9 28) s = (runL P call hint9 o9_28 s).bind fun s' => some (.normal, prune [1, 2, 3, 6, 11, 12, 15, 16, 17, 18, 19, 20] s') := rg_eq (id := 28) (by kernel_rfl) (by kernel_rfl) s
def o9_29 : List LF := [⟨some 106, none, 0, .fieldAddr 41 (.tmp 20) 0, [20], [], true, false, true, false, true⟩,
 ⟨some 107, none, 3, .load 3 (.tmp 106), [106], [], true, false, true, false, true⟩,
 ⟨some 108, none, 0, .fieldAddr 41 (.tmp 20) 1, [20], [], true, false, true, false, true⟩,
 ⟨some 109, none, 3, .load 3 (.tmp 108), [108], [], true, false, true, false, true⟩,
 ⟨some 110, none, 3, .call { callee := .value (.func 22), args := #[(.tmp 109)], argTypes := #[3] }, [109], [0, 1], true, true, true, true, false⟩,
 ⟨some 111, none, 59, .build 59 #[(0, (.tmp 107)), (1, (.tmp 110))], [107, 110], [], true, false, false, false, true⟩,
 ⟨some 21, none, 0, .alloc 59, [], [0, 1, 2, 3, 4, 5], false, true, true, false, false⟩,
 ⟨none, none, 0, .store 59 (.tmp 21) (.tmp 111), [21, 111], [], false, true, true, false, false⟩]
theorem rg9_29 (s : St) : codeX P hints hint9 (r9 29) s = (runC P call hint9 o9_29 (s, hist0 s) []).bind fun s' => some (.normal, prune [1, 2, 3, 6, 11, 12, 15, 16, 17, 18, 19, 20, 21] s') := rgD_eq (id := 29) (ns := [true, true, true, true, true, true, false, false]) (us := [[], [], [], [], [0, 1], [], [0, 1, 2, 3, 4, 5], []]) (by kernel_rfl) (by kernel_rfl) s
def o9_30 : List Lite := [⟨some 112, 57, .move (.tmp 11), none⟩,
 ⟨some 113, 59, .load 59 (.tmp 21), none⟩,
 ⟨some 114, 3, .call { callee := .value (.func 21), args := #[(.tmp 112), (.tmp 113)], argTypes := #[57, 59] }, none⟩,
 ⟨some 115, 4, .binOp .lss 3 (.tmp 114) (.const (.int .i64 (0))) 3, none⟩]
theorem rg9_30 (s : St) : codeX P hints hint9 (r9 30) s = (runL P call hint9 o9_30 s).bind fun s' => some (.normal, prune [1, 2, 3, 6, 11, 12, 15, 16, 17, 18, 19, 20, 21, 115] s') := rg_eq (id := 30) (by kernel_rfl) (by kernel_rfl) s
def o9_31 : List Lite := [⟨some 116, 57, .move (.tmp 11), none⟩,
 ⟨some 117, 59, .load 59 (.tmp 21), none⟩,
 ⟨some 118, 57, .buildSlice 57 1 #[(0, (.tmp 117))], none⟩,
 ⟨some 119, 57, .call { callee := .builtin .append, args := #[(.tmp 116), (.tmp 118)], argTypes := #[57, 57] }, none⟩,
 ⟨some 11, 57, .assign (.tmp 119), none⟩]
theorem rg9_31 (s : St) : codeX P hints hint9 (r9 31) s = (runL P call hint9 o9_31 s).bind fun s' => some (.normal, prune [1, 2, 3, 6, 11, 12, 15, 16, 17, 18, 19, 20, 21] s') := rg_eq (id := 31) (by kernel_rfl) (by kernel_rfl) s
def o9_32 : List LF := [⟨some 120, none, 39, .move (.tmp 18), [18], [], true, false, false, false, true⟩,
 ⟨some 121, none, 57, .move (.tmp 11), [11], [], false, false, false, false, true⟩,
 ⟨some 122, none, 59, .load 59 (.tmp 21), [21], [], false, false, true, false, true⟩,
 ⟨some 123, none, 3, .call { callee := .value (.func 21), args := #[(.tmp 121), (.tmp 122)], argTypes := #[57, 59] }, [121, 122], [0], true, true, true, true, false⟩,
 ⟨some 124, none, 0, .fieldAddr 41 (.tmp 20) 1, [20], [3], false, false, true, false, true⟩,
 ⟨some 125, none, 3, .load 3 (.tmp 124), [124], [3], false, false, true, false, true⟩,
 ⟨some 126, none, 41, .build 41 #[(0, (.tmp 123)), (1, (.tmp 125))], [123, 125], [], false, false, false, false, true⟩,
 ⟨some 127, none, 39, .buildSlice 39 1 #[(0, (.tmp 126))], [126], [], false, false, true, false, false⟩,
 ⟨some 128, none, 39, .call { callee := .builtin .append, args := #[(.tmp 120), (.tmp 127)], argTypes := #[39, 39] }, [120, 127], [], false, true, true, false, false⟩,
 ⟨some 18, none, 39, .assign (.tmp 128), [128], [], false, true, true, false, false⟩]
theorem rg9_32 (s : St) : codeX P hints hint9 (r9 32) s = (runC P call hint9 o9_32 (s, hist0 s) []).bind fun s' => some (.normal, prune [1, 2, 3, 6, 11, 12, 15, 16, 17, 18, 19] s') := rgD_eq (id := 32) (ns := [true, false, false, true, false, false, false, false, false, false]) (us := [[], [], [], [0], [3], [3], [], [], [], []]) (by kernel_rfl) (by kernel_rfl) s
def o9_27 : List Lite := [⟨some 96, 3, .move (.tmp 19), none⟩,
 ⟨some 97, 3, .binOp .add 3 (.tmp 96) (.const (.int .i64 (1))) 3, none⟩,
 ⟨some 19, 3, .assign (.tmp 97), none⟩]
theorem rg9_27 (s : St) : codeX P hints hint9 (r9 27) s = (runL P call hint9 o9_27 s).bind fun s' => some (.normal, prune [1, 2, 3, 6, 11, 12, 15, 16, 17, 18, 19] s') := rg_eq (id := 27) (by kernel_rfl) (by kernel_rfl) s
def o9_33 : List Lite := [⟨some 129, 0, .fieldAddr 26 (.tmp 12) 1, none⟩,
 ⟨some 130, 23, .load 23 (.tmp 129), none⟩,
 ⟨some 131, 39, .move (.tmp 18), none⟩,
 ⟨some 132, 23, .buildSlice 23 1 #[(0, (.tmp 131))], none⟩,
 ⟨some 133, 23, .call { callee := .builtin .append, args := #[(.tmp 130), (.tmp 132)], argTypes := #[23, 23] }, none⟩,
 ⟨some 134, 0, .fieldAddr 26 (.tmp 12) 1, none⟩,
 ⟨none, 0, .store 23 (.tmp 134) (.tmp 133), none⟩]
theorem rg9_33 (s : St) : codeX P hints hint9 (r9 33) s = (runL P call hint9 o9_33 s).bind fun s' => some (.normal, prune [1, 2, 3, 6, 11, 12, 15, 16, 17] s') := rg_eq (id := 33) (by kernel_rfl) (by kernel_rfl) s
def o9_34 : List LF := [⟨some 135, none, 0, .fieldAddr 26 (.tmp 12) 2, [12], [], false, false, true, false, true⟩,
 ⟨some 136, none, 24, .load 24 (.tmp 135), [135], [], false, false, true, false, true⟩,
 ⟨some 137, none, 0, .fieldAddr 26 (.tmp 3) 2, [3], [], false, false, true, false, true⟩,
 ⟨some 138, none, 24, .load 24 (.tmp 137), [137], [], false, false, true, false, true⟩,
 ⟨some 139, none, 3, .move (.tmp 17), [17], [], false, false, false, false, true⟩,
 ⟨some 140, none, 0, .indexAddr 24 (.tmp 138) (.tmp 139), [138, 139], [], false, false, true, false, true⟩,
 ⟨some 141, none, 45, .load 45 (.tmp 140), [140], [], false, false, true, false, true⟩,
 ⟨some 142, none, 24, .buildSlice 24 1 #[(0, (.tmp 141))], [141], [], false, false, true, false, false⟩,
 ⟨some 143, none, 24, .call { callee := .builtin .append, args := #[(.tmp 136), (.tmp 142)], argTypes := #[24, 24] }, [136, 142], [], false, true, true, false, false⟩,
 ⟨some 144, none, 0, .fieldAddr 26 (.tmp 12) 2, [12], [], false, false, true, false, true⟩,
 ⟨none, none, 0, .store 24 (.tmp 144) (.tmp 143), [144, 143], [], false, true, true, false, false⟩]
theorem rg9_34 (s : St) : codeX P hints hint9 (r9 34) s = (runC P call hint9 o9_34 (s, hist0 s) []).bind fun s' => some (.normal, prune [1, 2, 3, 6, 11, 12, 15, 16, 17] s') := rgD_eq (id := 34) (ns := [false, false, false, false, false, false, false, false, false, false, false]) (us := [[], [], [], [], [], [], [], [], [], [], []]) (by kernel_rfl) (by kernel_rfl) s
def o9_35 : List Lite := [⟨some 145, 22, .move (.tmp 15), none⟩,
 ⟨some 146, 3, .move (.tmp 17), none⟩,
 ⟨some 147, 22, .buildSlice 22 1 #[(0, (.tmp 146))], none⟩,
 ⟨some 148, 22, .call { callee := .builtin .append, args := #[(.tmp 145), (.tmp 147)], argTypes := #[22, 22] }, none⟩,
 ⟨some 15, 22, .assign (.tmp 148), none⟩]
theorem rg9_35 (s : St) : codeX P hints hint9 (r9 35) s = (runL P call hint9 o9_35 s).bind fun s' => some (.normal, prune [1, 2, 3, 6, 11, 12, 15, 16] s') := rg_eq (id := 35) (by kernel_rfl) (by kernel_rfl) s
def o9_20 : List Lite := [⟨some 77, 3, .move (.tmp 16), none⟩,
 ⟨some 78, 3, .binOp .add 3 (.tmp 77) (.const (.int .i64 (1))) 3, none⟩,
 ⟨some 16, 3, .assign (.tmp 78), none⟩]
theorem rg9_20 (s : St) : codeX P hints hint9 (r9 20) s = (runL P call hint9 o9_20 s).bind fun s' => some (.normal, prune [1, 2, 3, 6, 11, 12, 15, 16] s') := rg_eq (id := 20) (by kernel_rfl) (by kernel_rfl) s
def o9_36 : List Lite := [⟨some 22, 27, .assign (.const (.slice none 0 0)), none⟩]
theorem rg9_36 (s : St) : codeX P hints hint9 (r9 36) s = (runL P call hint9 o9_36 s).bind fun s' => some (.normal, prune [1, 2, 6, 11, 12, 15, 22] s') := rg_eq (id := 36) (by kernel_rfl) (by kernel_rfl) s
def o9_37 : List Lite := [⟨some 23, 3, .assign (.const (.int .i64 (0))), none⟩]
theorem rg9_37 (s : St) : codeX P hints hint9 (r9 37) s = (runL P call hint9 o9_37 s).bind fun s' => some (.normal, prune [1, 2, 6, 11, 12, 15, 22, 23] s') := rg_eq (id := 37) (by kernel_rfl) (by kernel_rfl) s
def o9_38 : List Lite := [⟨some 149, 3, .move (.tmp 23), none⟩,
 ⟨some 150, 22, .move (.tmp 2), none⟩,
 ⟨some 151, 3, .call { callee := .builtin .len, args := #[(.tmp 150)], argTypes := #[22] }, none⟩,
 ⟨some 152, 4, .binOp .lss 3 (.tmp 149) (.tmp 151) 3, none⟩]
theorem rg9_38 (s : St) : codeX P hints hint9 (r9 38) s = (runL P call hint9 o9_38 s).bind fun s' => some (.normal, prune [1, 2, 6, 11, 12, 15, 22, 23, 152] s') := rg_eq (id := 38) (by kernel_rfl) (by kernel_rfl) s
def o9_40 : List Lite := [⟨some 24, 38, .assign (.const (.slice none 0 0)), none⟩]
theorem rg9_40 (s : St) : codeX P hints hint9 (r9 40) s = (runL P call hint9 o9_40 s).bind fun s' => some (.normal, prune [1, 2, 6, 11, 12, 15, 22, 23, 24] s') := rg_eq (id := 40) (by kernel_rfl) (by kernel_rfl) s
def o9_41 : List Lite := [⟨some 25, 3, .assign (.const (.int .i64 (0))), none⟩]
theorem rg9_41 (s : St) : codeX P hints hint9 (r9 41) s = (runL P call hint9 o9_41 s).bind fun s' => some (.normal, prune [1, 2, 6, 11, 12, 15, 22, 23, 24, 25] s') := rg_eq (id := 41) (by kernel_rfl) (by kernel_rfl) s
def o9_42 : List Lite := [⟨some 155, 3, .move (.tmp 25), none⟩,
 ⟨some 156, 57, .move (.tmp 11), none⟩,
 ⟨some 157, 3, .call { callee := .builtin .len, args := #[(.tmp 156)], argTypes := #[57] }, none⟩,
 ⟨some 158, 4, .binOp .lss 3 (.tmp 155) (.tmp 157) 3, none⟩]
theorem rg9_42 (s : St) : codeX P hints hint9 (r9 42) s = (runL P call hint9 o9_42 s).bind fun s' => some (.normal, prune [1, 2, 6, 11, 12, 15, 22, 23, 24, 25, 158] s') := rg_eq (id := 42) (by kernel_rfl) (by kernel_rfl) s
def o9_44 : List LF := [⟨some 161, none, 38, .move (.tmp 24), [24], [], false, false, false, false, true⟩,
 ⟨some 162, none, 57, .move (.tmp 11), [11], [], false, false, false, false, true⟩,
 ⟨some 163, none, 3, .move (.tmp 25), [25], [], false, false, false, false, true⟩,
 ⟨some 164, none, 0, .indexAddr 57 (.tmp 162) (.tmp 163), [162, 163], [], false, false, true, false, true⟩,
 ⟨some 165, none, 0, .fieldAddr 59 (.tmp 164) 1, [164], [], false, false, true, false, true⟩,
 ⟨some 166, none, 3, .load 3 (.tmp 165), [165], [], false, false, true, false, true⟩,
 ⟨some 167, none, 22, .move (.tmp 2), [2], [], false, false, false, false, true⟩,
 ⟨some 168, none, 3, .move (.tmp 23), [23], [], false, false, false, false, true⟩,
 ⟨some 169, none, 0, .indexAddr 22 (.tmp 167) (.tmp 168), [167, 168], [], false, false, true, false, true⟩,
 ⟨some 170, none, 3, .load 3 (.tmp 169), [169], [], false, false, true, false, true⟩,
 ⟨some 171, none, 4, .binOp .eql 3 (.tmp 166) (.tmp 170) 3, [166, 170], [], false, false, false, false, true⟩,
 ⟨some 172, none, 4, .move (.tmp 171), [171], [], false, false, false, false, true⟩,
 ⟨some 173, some (172, false), 27, .move (.tmp 1), [1, 172], [], false, false, false, false, true⟩,
 ⟨some 174, some (172, false), 57, .move (.tmp 11), [11, 172], [], false, false, false, false, true⟩,
 ⟨some 175, some (172, false), 3, .move (.tmp 25), [25, 172], [], false, false, false, false, true⟩,
 ⟨some 176, some (172, false), 0, .indexAddr 57 (.tmp 174) (.tmp 175), [174, 175, 172], [], false, false, true, false, true⟩,
 ⟨some 177, some (172, false), 0, .fieldAddr 59 (.tmp 176) 0, [176, 172], [], false, false, true, false, true⟩,
 ⟨some 178, some (172, false), 3, .load 3 (.tmp 177), [177, 172], [], false, false, true, false, true⟩,
 ⟨some 179, some (172, false), 0, .indexAddr 27 (.tmp 173) (.tmp 178), [173, 178, 172], [], false, false, true, false, true⟩,
 ⟨some 180, some (172, false), 38, .load 38 (.tmp 179), [179, 172], [], false, false, true, false, true⟩,
 ⟨some 181, some (172, false), 3, .move (.tmp 23), [23, 172], [], false, false, false, false, true⟩,
 ⟨some 182, some (172, false), 0, .indexAddr 38 (.tmp 180) (.tmp 181), [180, 181, 172], [], false, false, true, false, true⟩,
 ⟨some 183, some (172, false), 4, .load 4 (.tmp 182), [182, 172], [], false, false, true, false, true⟩,
 ⟨some 184, some (172, false), 4, .unOp .not 4 (.tmp 183), [183, 172], [], false, false, false, false, true⟩,
 ⟨some 185, none, 4, .pick (.tmp 172) (.const (.bool true)) (.tmp 184), [172, 184], [], false, false, false, false, true⟩,
 ⟨some 186, none, 38, .buildSlice 38 1 #[(0, (.tmp 185))], [185], [], false, false, true, false, false⟩,
 ⟨some 187, none, 38, .call { callee := .builtin .append, args := #[(.tmp 161), (.tmp 186)], argTypes := #[38, 38] }, [161, 186], [], false, true, true, false, false⟩,
 ⟨some 24, none, 38, .assign (.tmp 187), [187], [], false, true, true, false, false⟩]
theorem rg9_44 (s : St) : codeX P hints hint9 (r9 44) s = (runC P call hint9 o9_44 (s, hist0 s) []).bind fun s' => some (.normal, prune [1, 2, 6, 11, 12, 15, 22, 23, 24, 25] s') := rgD_eq (id := 44) (ns := [false, false, false, false, false, false, false, false, false, false, false, false, false, false, false, false, false, false, false, false, false, false, false, false, false, false, false, false]) (us := [[], [], [], [], [], [], [], [], [], [], [], [], [], [], [], [], [], [], [], [], [], [], [], [], [], [], [], []]) (by kernel_rfl) (by kernel_rfl) s
def o9_43 : List Lite := [⟨some 159, 3, .move (.tmp 25), none⟩,
 ⟨some 160, 3, .binOp .add 3 (.tmp 159) (.const (.int .i64 (1))) 3, none⟩,
 ⟨some 25, 3, .assign (.tmp 160), none⟩]
theorem rg9_43 (s : St) : codeX P hints hint9 (r9 43) s = (runL P call hint9 o9_43 s).bind fun s' => some (.normal, prune [1, 2, 6, 11, 12, 15, 22, 23, 24, 25] s') := rg_eq (id := 43) (by kernel_rfl) (by kernel_rfl) s
def o9_45 : List Lite := [⟨some 188, 27, .move (.tmp 22), none⟩,
 ⟨some 189, 38, .move (.tmp 24), none⟩,
 ⟨some 190, 27, .buildSlice 27 1 #[(0, (.tmp 189))], none⟩,
 ⟨some 191, 27, .call { callee := .builtin .append, args := #[(.tmp 188), (.tmp 190)], argTypes := #[27, 27] }, none⟩,
 ⟨some 22, 27, .assign (.tmp 191), none⟩]
theorem rg9_45 (s : St) : codeX P hints hint9 (r9 45) s = (runL P call hint9 o9_45 s).bind fun s' => some (.normal, prune [1, 2, 6, 11, 12, 15, 22, 23] s') := rg_eq (id := 45) (by kernel_rfl) (by kernel_rfl) s
def o9_39 : List Lite := [⟨some 153, 3, .move (.tmp 23), none⟩,
 ⟨some 154, 3, .binOp .add 3 (.tmp 153) (.const (.int .i64 (1))) 3, none⟩,
 ⟨some 23, 3, .assign (.tmp 154), none⟩]
theorem rg9_39 (s : St) : codeX P hints hint9 (r9 39) s = (runL P call hint9 o9_39 s).bind fun s' => some (.normal, prune [1, 2, 6, 11, 12, 15, 22, 23] s') := rg_eq (id := 39) (by kernel_rfl) (by kernel_rfl) s
def o9_46 : List Lite := [⟨some 192, 26, .load 26 (.tmp 12), none⟩,
 ⟨some 193, 22, .move (.tmp 15), none⟩,
 ⟨some 194, 27, .move (.tmp 22), none⟩,
 ⟨none, 0, .store 26 (.tmp 6) (.tmp 192), none⟩,
 ⟨some 7, 22, .assign (.tmp 193), none⟩,
 ⟨some 8, 27, .assign (.tmp 194), none⟩,
 ⟨some 9, 30, .assign (.const (.int .i64 (0))), none⟩]
theorem rg9_46 (s : St) : codeX P hints hint9 (r9 46) s = (runL P call hint9 o9_46 s).bind fun s' => some (.normal, prune [6, 7, 8, 9] s') := rg_eq (id := 46) (by kernel_rfl) (by kernel_rfl) s
noncomputable def L9_0 : Code := .loop (.seq (.seq (r9 11) (.cond (.tmp 49) .skip (.exit 0))) (.seq (.block 1 (.seq (r9 13) (.seq (r9 14) (.cond (.tmp 61) (.seq (r9 15) (r9 16)) .skip)))) (r9 12)))
noncomputable def L9_1 : Code := .loop (.seq (.seq (r9 26) (.cond (.tmp 95) .skip (.exit 4))) (.seq (.block 5 (.seq (r9 28) (.seq (r9 29) (.seq (.seq (r9 30) (.cond (.tmp 115) (r9 31) .skip)) (r9 32))))) (r9 27)))
noncomputable def L9_2 : Code := .loop (.seq (.seq (r9 19) (.cond (.tmp 76) .skip (.exit 2))) (.seq (.block 3 (.seq (.seq (r9 21) (.cond (.tmp 81) (.seq (r9 22) .ret) .skip)) (.seq (r9 23) (.seq (r9 24) (.seq (.seq (r9 25) (.block 4 L9_1)) (.seq (r9 33) (.seq (r9 34) (r9 35)))))))) (r9 20)))
noncomputable def L9_3 : Code := .loop (.seq (.seq (r9 42) (.cond (.tmp 158) .skip (.exit 8))) (.seq (.block 9 (r9 44)) (r9 43)))
noncomputable def L9_4 : Code := .loop (.seq (.seq (r9 38) (.cond (.tmp 152) .skip (.exit 6))) (.seq (.block 7 (.seq (r9 40) (.seq (.seq (r9 41) (.block 8 L9_3)) (r9 45)))) (r9 39)))
theorem eq9 (ds : List D) (H : List Ob) (hl : ds.length = 3) : call 9 ds H = (codeX P hints hint9 (.seq (r9 0) (.seq (r9 1) (.seq (.seq (r9 2) (.cond (.tmp 29) (.seq (r9 3) .ret) .skip)) (.seq (.seq (r9 4) (.cond (.tmp 39) (.seq (r9 5) .ret) .skip)) (.seq (.seq (r9 6) (.cond (.tmp 43) (.seq (r9 7) .ret) .skip)) (.seq (r9 8) (.seq (r9 9) (.seq (.seq (r9 10) (.block 0 L9_0)) (.seq (r9 17) (.seq (.seq (r9 18) (.block 2 L9_2)) (.seq (r9 36) (.seq (.seq (r9 37) (.block 6 L9_4)) (.seq (r9 46) .ret))))))))))))) (enter ds H)).bind (leaveR P false [.cell 6 26, .tmp 7, .tmp 8, .tmp 9] H.length) :=
  callX_leave Try.func9 (by kernel_rfl) hl (by kernel_rfl) (by kernel_rfl) rfl
noncomputable def b13 : Code := Try.f13.body.getD .skip
noncomputable def r13 (id : Nat) : Code := rg b13 id
def o13_0 : List Lite := [⟨some 5, 0, .box 26 (.tmp 0), none⟩,
 ⟨some 10, 38, .assign (.const (.slice none 0 0)), none⟩]
theorem rg13_0 (s : St) : codeX P hints hint13 (r13 0) s = (runL P call hint13 o13_0 s).bind fun s' => some (.normal, prune [1, 2, 3, 4, 5] s') := rg_eq (id := 0) (by kernel_rfl) (by kernel_rfl) s
def o13_1 : List Lite := [⟨some 16, 22, .move (.tmp 2), none⟩,
 ⟨some 17, 3, .call { callee := .builtin .len, args := #[(.tmp 16)], argTypes := #[22] }, none⟩,
 ⟨some 18, 38, .makeSlice 38 (.tmp 17) (.tmp 17), none⟩,
 ⟨some 11, 38, .assign (.tmp 18), none⟩]
theorem rg13_1 (s : St) : codeX P hints hint13 (r13 1) s = (runL P call hint13 o13_1 s).bind fun s' => some (.normal, prune [1, 2, 3, 4, 5, 11] s') := rg_eq (id := 1) (by kernel_rfl) (by kernel_rfl) s
def o13_2 : List Lite := [⟨some 19, 22, .move (.tmp 3), none⟩,
 ⟨some 20, 3, .call { callee := .builtin .len, args := #[(.tmp 19)], argTypes := #[22] }, none⟩,
 ⟨some 21, 3, .move (.const (.int .i64 (0))), none⟩]
theorem rg13_2 (s : St) : codeX P hints hint13 (r13 2) s = (runL P call hint13 o13_2 s).bind fun s' => some (.normal, prune [1, 2, 4, 5, 11, 19, 20, 21] s') := rg_eq (id := 2) (by kernel_rfl) (by kernel_rfl) s
def o13_3 : List Lite := [⟨some 22, 0, .binOp .lss 3 (.tmp 21) (.tmp 20) 3, none⟩]
theorem rg13_3 (s : St) : codeX P hints hint13 (r13 3) s = (runL P call hint13 o13_3 s).bind fun s' => some (.normal, prune [1, 2, 4, 5, 11, 19, 20, 21, 22] s') := rg_eq (id := 3) (by kernel_rfl) (by kernel_rfl) s
def o13_4 : List Lite := [⟨some 23, 3, .move (.tmp 21), none⟩,
 ⟨some 24, 0, .indexAddr 22 (.tmp 19) (.tmp 21), none⟩,
 ⟨some 25, 3, .load 3 (.tmp 24), none⟩,
 ⟨some 12, 3, .assign (.tmp 23), none⟩,
 ⟨some 13, 3, .assign (.tmp 25), none⟩]
theorem rg13_4 (s : St) : codeX P hints hint13 (r13 4) s = (runL P call hint13 o13_4 s).bind fun s' => some (.normal, prune [1, 2, 4, 5, 11, 12, 13, 19, 20, 21] s') := rg_eq (id := 4) (by kernel_rfl) (by kernel_rfl) s
def o13_5 : List Lite := [⟨some 26, 22, .move (.tmp 2), none⟩,
 ⟨some 27, 3, .call { callee := .builtin .len, args := #[(.tmp 26)], argTypes := #[22] }, none⟩,
 ⟨some 28, 3, .move (.const (.int .i64 (0))), none⟩]
theorem rg13_5 (s : St) : codeX P hints hint13 (r13 5) s = (runL P call hint13 o13_5 s).bind fun s' => some (.normal, prune [1, 2, 4, 5, 11, 12, 13, 19, 20, 21, 26, 27, 28] s') := rg_eq (id := 5) (by kernel_rfl) (by kernel_rfl) s
def o13_6 : List Lite := [⟨some 29, 0, .binOp .lss 3 (.tmp 28) (.tmp 27) 3, none⟩]
theorem rg13_6 (s : St) : codeX P hints hint13 (r13 6) s = (runL P call hint13 o13_6 s).bind fun s' => some (.normal, prune [1, 2, 4, 5, 11, 12, 13, 19, 20, 21, 26, 27, 28, 29] s') := rg_eq (id := 6) (by kernel_rfl) (by kernel_rfl) s
def o13_7 : List Lite := [⟨some 30, 3, .move (.tmp 28), none⟩,
 ⟨some 31, 0, .indexAddr 22 (.tmp 26) (.tmp 28), none⟩,
 ⟨some 32, 3, .load 3 (.tmp 31), none⟩,
 ⟨some 14, 3, .assign (.tmp 30), none⟩,
 ⟨some 15, 3, .assign (.tmp 32), none⟩]
theorem rg13_7 (s : St) : codeX P hints hint13 (r13 7) s = (runL P call hint13 o13_7 s).bind fun s' => some (.normal, prune [1, 2, 4, 5, 11, 12, 13, 14, 15, 19, 20, 21, 26, 27, 28] s') := rg_eq (id := 7) (by kernel_rfl) (by kernel_rfl) s
def o13_8 : List LF := [⟨some 33, none, 0, .fieldAddr 26 (.tmp 5) 1, [5], [], false, false, true, false, true⟩,
 ⟨some 34, none, 23, .load 23 (.tmp 33), [33], [], false, false, true, false, true⟩,
 ⟨some 35, none, 3, .move (.tmp 13), [13], [], false, false, false, false, true⟩,
 ⟨some 36, none, 0, .indexAddr 23 (.tmp 34) (.tmp 35), [34, 35], [], false, false, true, false, true⟩,
 ⟨some 37, none, 39, .load 39 (.tmp 36), [36], [], false, false, true, false, true⟩,
 ⟨some 38, none, 22, .move (.tmp 4), [4], [], false, false, false, false, true⟩,
 ⟨some 39, none, 3, .move (.tmp 12), [12], [], false, false, false, false, true⟩,
 ⟨some 40, none, 0, .indexAddr 22 (.tmp 38) (.tmp 39), [38, 39], [], false, false, true, false, true⟩,
 ⟨some 41, none, 3, .load 3 (.tmp 40), [40], [], false, false, true, false, true⟩,
 ⟨some 42, none, 0, .indexAddr 39 (.tmp 37) (.tmp 41), [37, 41], [], false, false, true, false, true⟩,
 ⟨some 43, none, 0, .fieldAddr 41 (.tmp 42) 1, [42], [], false, false, true, false, true⟩,
 ⟨some 44, none, 3, .load 3 (.tmp 43), [43], [], false, false, true, false, true⟩,
 ⟨some 45, none, 3, .call { callee := .value (.func 22), args := #[(.tmp 44)], argTypes := #[3] }, [44], [], true, true, true, true, false⟩,
 ⟨some 46, none, 3, .move (.tmp 15), [15], [12], false, false, false, false, true⟩,
 ⟨some 47, none, 4, .binOp .eql 3 (.tmp 45) (.tmp 46) 3, [45, 46], [], false, false, false, false, true⟩,
 ⟨some 48, none, 4, .move (.tmp 47), [47], [], false, false, false, false, true⟩,
 ⟨some 49, some (48, false), 27, .move (.tmp 1), [1, 48], [], false, false, false, false, true⟩,
 ⟨some 50, some (48, false), 3, .move (.tmp 13), [13, 48], [], false, false, false, false, true⟩,
 ⟨some 51, some (48, false), 0, .indexAddr 27 (.tmp 49) (.tmp 50), [49, 50, 48], [], false, false, true, false, true⟩,
 ⟨some 52, some (48, false), 38, .load 38 (.tmp 51), [51, 48], [], false, false, true, false, true⟩,
 ⟨some 53, some (48, false), 3, .move (.tmp 14), [14, 48], [], false, false, false, false, true⟩,
 ⟨some 54, some (48, false), 0, .indexAddr 38 (.tmp 52) (.tmp 53), [52, 53, 48], [], false, false, true, false, true⟩,
 ⟨some 55, some (48, false), 4, .load 4 (.tmp 54), [54, 48], [], false, false, true, false, true⟩,
 ⟨some 56, some (48, false), 4, .unOp .not 4 (.tmp 55), [55, 48], [], false, false, false, false, true⟩,
 ⟨some 57, none, 4, .pick (.tmp 48) (.const (.bool true)) (.tmp 56), [48, 56], [], false, false, false, false, true⟩]
theorem rg13_8 (s : St) : codeX P hints hint13 (r13 8) s = (runC P call hint13 o13_8 (s, hist0 s) []).bind fun s' => some (.normal, prune [1, 2, 4, 5, 11, 12, 13, 14, 19, 20, 21, 26, 27, 28, 57] s') := rgD_eq (id := 8) (ns := [false, false, false, false, false, false, false, false, false, false, false, false, true, false, false, false, false, false, false, false, false, false, false, false, false]) (us := [[], [], [], [], [], [], [], [], [], [], [], [], [], [12], [], [], [], [], [], [], [], [], [], [], []]) (by kernel_rfl) (by kernel_rfl) s
def o13_9 : List Lite := [⟨some 58, 38, .move (.tmp 11), none⟩,
 ⟨some 59, 3, .move (.tmp 14), none⟩,
 ⟨some 60, 0, .indexAddr 38 (.tmp 58) (.tmp 59), none⟩,
 ⟨none, 0, .store 4 (.tmp 60) (.const (.bool true)), none⟩]
theorem rg13_9 (s : St) : codeX P hints hint13 (r13 9) s = (runL P call hint13 o13_9 s).bind fun s' => some (.normal, prune [1, 2, 4, 5, 11, 12, 13, 19, 20, 21, 26, 27, 28] s') := rg_eq (id := 9) (by kernel_rfl) (by kernel_rfl) s
def o13_10 : List Lite := [⟨some 61, 3, .binOp .add 3 (.tmp 28) (.const (.int .i64 (1))) 3, none⟩,
 ⟨some 28, 3, .move (.tmp 61), none⟩]
theorem rg13_10 (s : St) : codeX P hints hint13 (r13 10) s = (runL P call hint13 o13_10 s).bind fun s' => some (.normal, prune [1, 2, 4, 5, 11, 12, 13, 19, 20, 21, 26, 27, 28] s') := rg_eq (id := 10) (by kernel_rfl) (by kernel_rfl) s
def o13_11 : List Lite := [⟨some 62, 3, .binOp .add 3 (.tmp 21) (.const (.int .i64 (1))) 3, none⟩,
 ⟨some 21, 3, .move (.tmp 62), none⟩]
theorem rg13_11 (s : St) : codeX P hints hint13 (r13 11) s = (runL P call hint13 o13_11 s).bind fun s' => some (.normal, prune [1, 2, 4, 5, 11, 19, 20, 21] s') := rg_eq (id := 11) (by kernel_rfl) (by kernel_rfl) s
def o13_12 : List Lite := [⟨some 63, 38, .move (.tmp 11), none⟩,
 ⟨some 10, 38, .assign (.tmp 63), none⟩]
theorem rg13_12 (s : St) : codeX P hints hint13 (r13 12) s = (runL P call hint13 o13_12 s).bind fun s' => some (.normal, prune [10] s') := rg_eq (id := 12) (by kernel_rfl) (by kernel_rfl) s
noncomputable def L13_0 : Code := .loop (.seq (r13 6) (.seq (.cond (.tmp 29) .skip (.exit 2)) (.seq (.block 3 (.seq (r13 7) (.seq (r13 8) (.cond (.tmp 57) (r13 9) .skip)))) (r13 10))))
noncomputable def L13_1 : Code := .loop (.seq (r13 3) (.seq (.cond (.tmp 22) .skip (.exit 0)) (.seq (.block 1 (.seq (r13 4) (.seq (r13 5) (.block 2 L13_0)))) (r13 11))))
theorem eq13 (ds : List D) (H : List Ob) (hl : ds.length = 5) : call 13 ds H = (codeX P hints hint13 (.seq (r13 0) (.seq (r13 1) (.seq (.seq (r13 2) (.block 0 L13_1)) (.seq (r13 12) .ret)))) (enter ds H)).bind (leaveR P false [.tmp 10] H.length) :=
  callX_leave Try.func13 (by kernel_rfl) hl (by kernel_rfl) (by kernel_rfl) rfl
noncomputable def b14 : Code := Try.f14.body.getD .skip
noncomputable def r14 (id : Nat) : Code := rg b14 id
def o14_0 : List Lite := [⟨some 1, 0, .box 26 (.tmp 0), none⟩,
 ⟨some 2, 30, .assign (.const (.int .i64 (0))), none⟩]
theorem rg14_0 (s : St) : codeX P hints hint14 (r14 0) s = (runL P call hint14 o14_0 s).bind fun s' => some (.normal, prune [1] s') := rg_eq (id := 0) (by kernel_rfl) (by kernel_rfl) s
def o14_1 : List Lite := [⟨some 6, 0, .fieldAddr 26 (.tmp 1) 1, none⟩,
 ⟨some 7, 23, .load 23 (.tmp 6), none⟩,
 ⟨some 8, 3, .call { callee := .builtin .len, args := #[(.tmp 7)], argTypes := #[23] }, none⟩,
 ⟨some 9, 4, .binOp .gtr 3 (.tmp 8) (.const (.int .i64 (65536))) 3, none⟩]
theorem rg14_1 (s : St) : codeX P hints hint14 (r14 1) s = (runL P call hint14 o14_1 s).bind fun s' => some (.normal, prune [1, 9] s') := rg_eq (id := 1) (by kernel_rfl) (by kernel_rfl) s
def o14_2 : List Lite := [⟨some 2, 30, .assign (.const (.int .i64 (11))), none⟩]
theorem rg14_2 (s : St) : codeX P hints hint14 (r14 2) s = (runL P call hint14 o14_2 s).bind fun s' => some (.normal, prune [2] s') := rg_eq (id := 2) (by kernel_rfl) (by kernel_rfl) s
def o14_3 : List Lite := [⟨some 10, 0, .fieldAddr 26 (.tmp 1) 2, none⟩,
 ⟨some 11, 24, .load 24 (.tmp 10), none⟩,
 ⟨some 12, 3, .call { callee := .builtin .len, args := #[(.tmp 11)], argTypes := #[24] }, none⟩,
 ⟨some 13, 0, .fieldAddr 26 (.tmp 1) 1, none⟩,
 ⟨some 14, 23, .load 23 (.tmp 13), none⟩,
 ⟨some 15, 3, .call { callee := .builtin .len, args := #[(.tmp 14)], argTypes := #[23] }, none⟩,
 ⟨some 16, 4, .binOp .neq 3 (.tmp 12) (.tmp 15) 3, none⟩]
theorem rg14_3 (s : St) : codeX P hints hint14 (r14 3) s = (runL P call hint14 o14_3 s).bind fun s' => some (.normal, prune [1, 16] s') := rg_eq (id := 3) (by kernel_rfl) (by kernel_rfl) s
def o14_4 : List Lite := [⟨some 2, 30, .assign (.const (.int .i64 (3))), none⟩]
theorem rg14_4 (s : St) : codeX P hints hint14 (r14 4) s = (runL P call hint14 o14_4 s).bind fun s' => some (.normal, prune [2] s') := rg_eq (id := 4) (by kernel_rfl) (by kernel_rfl) s
def o14_5 : List Lite := [⟨some 3, 3, .assign (.const (.int .i64 (0))), none⟩]
theorem rg14_5 (s : St) : codeX P hints hint14 (r14 5) s = (runL P call hint14 o14_5 s).bind fun s' => some (.normal, prune [1, 3] s') := rg_eq (id := 5) (by kernel_rfl) (by kernel_rfl) s
def o14_6 : List Lite := [⟨some 17, 3, .move (.tmp 3), none⟩,
 ⟨some 18, 0, .fieldAddr 26 (.tmp 1) 0, none⟩,
 ⟨some 19, 22, .load 22 (.tmp 18), none⟩,
 ⟨some 20, 3, .call { callee := .builtin .len, args := #[(.tmp 19)], argTypes := #[22] }, none⟩,
 ⟨some 21, 4, .binOp .lss 3 (.tmp 17) (.tmp 20) 3, none⟩]
theorem rg14_6 (s : St) : codeX P hints hint14 (r14 6) s = (runL P call hint14 o14_6 s).bind fun s' => some (.normal, prune [1, 3, 21] s') := rg_eq (id := 6) (by kernel_rfl) (by kernel_rfl) s
def o14_8 : List LF := [⟨some 24, none, 26, .load 26 (.tmp 1), [1], [], false, false, true, false, true⟩,
 ⟨some 25, none, 0, .fieldAddr 26 (.tmp 1) 0, [1], [], false, false, true, false, true⟩,
 ⟨some 26, none, 22, .load 22 (.tmp 25), [25], [], false, false, true, false, true⟩,
 ⟨some 27, none, 3, .move (.tmp 3), [3], [], false, false, false, false, true⟩,
 ⟨some 28, none, 0, .indexAddr 22 (.tmp 26) (.tmp 27), [26, 27], [], false, false, true, false, true⟩,
 ⟨some 29, none, 3, .load 3 (.tmp 28), [28], [], false, false, true, false, true⟩,
 ⟨some 30, none, 4, .call { callee := .value (.func 24), args := #[(.tmp 24), (.tmp 29)], argTypes := #[26, 3] }, [24, 29], [], false, true, true, true, false⟩,
 ⟨some 31, none, 4, .unOp .not 4 (.tmp 30), [30], [], false, false, false, false, true⟩]
theorem rg14_8 (s : St) : codeX P hints hint14 (r14 8) s = (runC P call hint14 o14_8 (s, hist0 s) []).bind fun s' => some (.normal, prune [1, 3, 31] s') := rgD_eq (id := 8) (ns := [false, false, false, false, false, false, false, false]) (us := [[], [], [], [], [], [], [], []]) (by kernel_rfl) (by kernel_rfl) s
def o14_9 : List Lite := [⟨some 2, 30, .assign (.const (.int .i64 (10))), none⟩]
theorem rg14_9 (s : St) : codeX P hints hint14 (r14 9) s = (runL P call hint14 o14_9 s).bind fun s' => some (.normal, prune [2] s') := rg_eq (id := 9) (by kernel_rfl) (by kernel_rfl) s
def o14_7 : List Lite := [⟨some 22, 3, .move (.tmp 3), none⟩,
 ⟨some 23, 3, .binOp .add 3 (.tmp 22) (.const (.int .i64 (1))) 3, none⟩,
 ⟨some 3, 3, .assign (.tmp 23), none⟩]
theorem rg14_7 (s : St) : codeX P hints hint14 (r14 7) s = (runL P call hint14 o14_7 s).bind fun s' => some (.normal, prune [1, 3] s') := rg_eq (id := 7) (by kernel_rfl) (by kernel_rfl) s
def o14_10 : List Lite := [⟨some 4, 3, .assign (.const (.int .i64 (0))), none⟩]
theorem rg14_10 (s : St) : codeX P hints hint14 (r14 10) s = (runL P call hint14 o14_10 s).bind fun s' => some (.normal, prune [1, 4] s') := rg_eq (id := 10) (by kernel_rfl) (by kernel_rfl) s
def o14_11 : List Lite := [⟨some 32, 3, .move (.tmp 4), none⟩,
 ⟨some 33, 0, .fieldAddr 26 (.tmp 1) 1, none⟩,
 ⟨some 34, 23, .load 23 (.tmp 33), none⟩,
 ⟨some 35, 3, .call { callee := .builtin .len, args := #[(.tmp 34)], argTypes := #[23] }, none⟩,
 ⟨some 36, 4, .binOp .lss 3 (.tmp 32) (.tmp 35) 3, none⟩]
theorem rg14_11 (s : St) : codeX P hints hint14 (r14 11) s = (runL P call hint14 o14_11 s).bind fun s' => some (.normal, prune [1, 4, 36] s') := rg_eq (id := 11) (by kernel_rfl) (by kernel_rfl) s
def o14_13 : List Lite := [⟨some 5, 3, .assign (.const (.int .i64 (0))), none⟩]
theorem rg14_13 (s : St) : codeX P hints hint14 (r14 13) s = (runL P call hint14 o14_13 s).bind fun s' => some (.normal, prune [1, 4, 5] s') := rg_eq (id := 13) (by kernel_rfl) (by kernel_rfl) s
def o14_14 : List Lite := [⟨some 39, 3, .move (.tmp 5), none⟩,
 ⟨some 40, 0, .fieldAddr 26 (.tmp 1) 1, none⟩,
 ⟨some 41, 23, .load 23 (.tmp 40), none⟩,
 ⟨some 42, 3, .move (.tmp 4), none⟩,
 ⟨some 43, 0, .indexAddr 23 (.tmp 41) (.tmp 42), none⟩,
 ⟨some 44, 39, .load 39 (.tmp 43), none⟩,
 ⟨some 45, 3, .call { callee := .builtin .len, args := #[(.tmp 44)], argTypes := #[39] }, none⟩,
 ⟨some 46, 4, .binOp .lss 3 (.tmp 39) (.tmp 45) 3, none⟩]
theorem rg14_14 (s : St) : codeX P hints hint14 (r14 14) s = (runL P call hint14 o14_14 s).bind fun s' => some (.normal, prune [1, 4, 5, 46] s') := rg_eq (id := 14) (by kernel_rfl) (by kernel_rfl) s
def o14_16 : List LF := [⟨some 49, none, 26, .load 26 (.tmp 1), [1], [], false, false, true, false, true⟩,
 ⟨some 50, none, 0, .fieldAddr 26 (.tmp 1) 1, [1], [], false, false, true, false, true⟩,
 ⟨some 51, none, 23, .load 23 (.tmp 50), [50], [], false, false, true, false, true⟩,
 ⟨some 52, none, 3, .move (.tmp 4), [4], [], false, false, false, false, true⟩,
 ⟨some 53, none, 0, .indexAddr 23 (.tmp 51) (.tmp 52), [51, 52], [], false, false, true, false, true⟩,
 ⟨some 54, none, 39, .load 39 (.tmp 53), [53], [], false, false, true, false, true⟩,
 ⟨some 55, none, 3, .move (.tmp 5), [5], [], false, false, false, false, true⟩,
 ⟨some 56, none, 0, .indexAddr 39 (.tmp 54) (.tmp 55), [54, 55], [], false, false, true, false, true⟩,
 ⟨some 57, none, 0, .fieldAddr 41 (.tmp 56) 0, [56], [], false, false, true, false, true⟩,
 ⟨some 58, none, 3, .load 3 (.tmp 57), [57], [], false, false, true, false, true⟩,
 ⟨some 59, none, 4, .call { callee := .value (.func 24), args := #[(.tmp 49), (.tmp 58)], argTypes := #[26, 3] }, [49, 58], [], false, true, true, true, false⟩,
 ⟨some 60, none, 4, .unOp .not 4 (.tmp 59), [59], [], false, false, false, false, true⟩]
theorem rg14_16 (s : St) : codeX P hints hint14 (r14 16) s = (runC P call hint14 o14_16 (s, hist0 s) []).bind fun s' => some (.normal, prune [1, 4, 5, 60] s') := rgD_eq (id := 16) (ns := [false, false, false, false, false, false, false, false, false, false, false, false]) (us := [[], [], [], [], [], [], [], [], [], [], [], []]) (by kernel_rfl) (by kernel_rfl) s
def o14_17 : List Lite := [⟨some 2, 30, .assign (.const (.int .i64 (10))), none⟩]
theorem rg14_17 (s : St) : codeX P hints hint14 (r14 17) s = (runL P call hint14 o14_17 s).bind fun s' => some (.normal, prune [2] s') := rg_eq (id := 17) (by kernel_rfl) (by kernel_rfl) s
def o14_15 : List Lite := [⟨some 47, 3, .move (.tmp 5), none⟩,
 ⟨some 48, 3, .binOp .add 3 (.tmp 47) (.const (.int .i64 (1))) 3, none⟩,
 ⟨some 5, 3, .assign (.tmp 48), none⟩]
theorem rg14_15 (s : St) : codeX P hints hint14 (r14 15) s = (runL P call hint14 o14_15 s).bind fun s' => some (.normal, prune [1, 4, 5] s') := rg_eq (id := 15) (by kernel_rfl) (by kernel_rfl) s
def o14_12 : List Lite := [⟨some 37, 3, .move (.tmp 4), none⟩,
 ⟨some 38, 3, .binOp .add 3 (.tmp 37) (.const (.int .i64 (1))) 3, none⟩,
 ⟨some 4, 3, .assign (.tmp 38), none⟩]
theorem rg14_12 (s : St) : codeX P hints hint14 (r14 12) s = (runL P call hint14 o14_12 s).bind fun s' => some (.normal, prune [1, 4] s') := rg_eq (id := 12) (by kernel_rfl) (by kernel_rfl) s
def o14_18 : List Lite := [⟨some 2, 30, .assign (.const (.int .i64 (0))), none⟩]
theorem rg14_18 (s : St) : codeX P hints hint14 (r14 18) s = (runL P call hint14 o14_18 s).bind fun s' => some (.normal, prune [2] s') := rg_eq (id := 18) (by kernel_rfl) (by kernel_rfl) s
noncomputable def L14_0 : Code := .loop (.seq (.seq (r14 6) (.cond (.tmp 21) .skip (.exit 0))) (.seq (.block 1 (.seq (r14 8) (.cond (.tmp 31) (.seq (r14 9) .ret) .skip))) (r14 7)))
noncomputable def L14_1 : Code := .loop (.seq (.seq (r14 14) (.cond (.tmp 46) .skip (.exit 4))) (.seq (.block 5 (.seq (r14 16) (.cond (.tmp 60) (.seq (r14 17) .ret) .skip))) (r14 15)))
noncomputable def L14_2 : Code := .loop (.seq (.seq (r14 11) (.cond (.tmp 36) .skip (.exit 2))) (.seq (.block 3 (.seq (r14 13) (.block 4 L14_1))) (r14 12)))
theorem eq14 (ds : List D) (H : List Ob) (hl : ds.length = 1) : call 14 ds H = (codeX P hints hint14 (.seq (r14 0) (.seq (.seq (r14 1) (.cond (.tmp 9) (.seq (r14 2) .ret) .skip)) (.seq (.seq (r14 3) (.cond (.tmp 16) (.seq (r14 4) .ret) .skip)) (.seq (.seq (r14 5) (.block 0 L14_0)) (.seq (.seq (r14 10) (.block 2 L14_2)) (.seq (r14 18) .ret)))))) (enter ds H)).bind (leaveR P false [.tmp 2] H.length) :=
  callX_leave Try.func14 (by kernel_rfl) hl (by kernel_rfl) (by kernel_rfl) rfl
noncomputable def b15 : Code := Try.f15.body.getD .skip
noncomputable def r15 (id : Nat) : Code := rg b15 id
def o15_0 : List Lite := [⟨some 1, 0, .box 26 (.tmp 0), none⟩,
 ⟨some 2, 30, .assign (.const (.int .i64 (0))), none⟩]
theorem rg15_0 (s : St) : codeX P hints hint15 (r15 0) s = (runL P call hint15 o15_0 s).bind fun s' => some (.normal, prune [1] s') := rg_eq (id := 0) (by kernel_rfl) (by kernel_rfl) s
def o15_1 : List Lite := [⟨some 8, 0, .fieldAddr 26 (.tmp 1) 1, none⟩,
 ⟨some 9, 23, .load 23 (.tmp 8), none⟩,
 ⟨some 10, 3, .call { callee := .builtin .len, args := #[(.tmp 9)], argTypes := #[23] }, none⟩,
 ⟨some 3, 3, .assign (.tmp 10), none⟩]
theorem rg15_1 (s : St) : codeX P hints hint15 (r15 1) s = (runL P call hint15 o15_1 s).bind fun s' => some (.normal, prune [1, 3] s') := rg_eq (id := 1) (by kernel_rfl) (by kernel_rfl) s
def o15_2 : List Lite := [⟨some 11, 3, .move (.tmp 3), none⟩,
 ⟨some 12, 4, .binOp .gtr 3 (.tmp 11) (.const (.int .i64 (65536))) 3, none⟩]
theorem rg15_2 (s : St) : codeX P hints hint15 (r15 2) s = (runL P call hint15 o15_2 s).bind fun s' => some (.normal, prune [1, 3, 12] s') := rg_eq (id := 2) (by kernel_rfl) (by kernel_rfl) s
def o15_3 : List Lite := [⟨some 2, 30, .assign (.const (.int .i64 (11))), none⟩]
theorem rg15_3 (s : St) : codeX P hints hint15 (r15 3) s = (runL P call hint15 o15_3 s).bind fun s' => some (.normal, prune [2] s') := rg_eq (id := 3) (by kernel_rfl) (by kernel_rfl) s
def o15_4 : List Lite := [⟨some 13, 0, .fieldAddr 26 (.tmp 1) 2, none⟩,
 ⟨some 14, 24, .load 24 (.tmp 13), none⟩,
 ⟨some 15, 3, .call { callee := .builtin .len, args := #[(.tmp 14)], argTypes := #[24] }, none⟩,
 ⟨some 16, 3, .move (.tmp 3), none⟩,
 ⟨some 17, 4, .binOp .neq 3 (.tmp 15) (.tmp 16) 3, none⟩]
theorem rg15_4 (s : St) : codeX P hints hint15 (r15 4) s = (runL P call hint15 o15_4 s).bind fun s' => some (.normal, prune [1, 17] s') := rg_eq (id := 4) (by kernel_rfl) (by kernel_rfl) s
def o15_5 : List Lite := [⟨some 2, 30, .assign (.const (.int .i64 (3))), none⟩]
theorem rg15_5 (s : St) : codeX P hints hint15 (r15 5) s = (runL P call hint15 o15_5 s).bind fun s' => some (.normal, prune [2] s') := rg_eq (id := 5) (by kernel_rfl) (by kernel_rfl) s
def o15_6 : List Lite := [⟨some 18, 0, .fieldAddr 26 (.tmp 1) 0, none⟩,
 ⟨some 19, 22, .load 22 (.tmp 18), none⟩,
 ⟨some 20, 3, .call { callee := .builtin .len, args := #[(.tmp 19)], argTypes := #[22] }, none⟩,
 ⟨some 21, 3, .move (.const (.int .i64 (0))), none⟩]
theorem rg15_6 (s : St) : codeX P hints hint15 (r15 6) s = (runL P call hint15 o15_6 s).bind fun s' => some (.normal, prune [1, 19, 20, 21] s') := rg_eq (id := 6) (by kernel_rfl) (by kernel_rfl) s
def o15_7 : List Lite := [⟨some 22, 0, .binOp .lss 3 (.tmp 21) (.tmp 20) 3, none⟩]
theorem rg15_7 (s : St) : codeX P hints hint15 (r15 7) s = (runL P call hint15 o15_7 s).bind fun s' => some (.normal, prune [1, 19, 20, 21, 22] s') := rg_eq (id := 7) (by kernel_rfl) (by kernel_rfl) s
def o15_8 : List Lite := [⟨some 23, 0, .indexAddr 22 (.tmp 19) (.tmp 21), none⟩,
 ⟨some 24, 3, .load 3 (.tmp 23), none⟩,
 ⟨some 5, 3, .assign (.tmp 24), none⟩]
theorem rg15_8 (s : St) : codeX P hints hint15 (r15 8) s = (runL P call hint15 o15_8 s).bind fun s' => some (.normal, prune [1, 5, 19, 20, 21] s') := rg_eq (id := 8) (by kernel_rfl) (by kernel_rfl) s
def o15_9 : List Lite := [⟨some 25, 26, .load 26 (.tmp 1), none⟩,
 ⟨some 26, 3, .move (.tmp 5), none⟩,
 ⟨some 27, 4, .call { callee := .value (.func 25), args := #[(.tmp 25), (.tmp 26)], argTypes := #[26, 3] }, none⟩,
 ⟨some 28, 4, .unOp .not 4 (.tmp 27), none⟩]
theorem rg15_9 (s : St) : codeX P hints hint15 (r15 9) s = (runL P call hint15 o15_9 s).bind fun s' => some (.normal, prune [1, 19, 20, 21, 28] s') := rg_eq (id := 9) (by kernel_rfl) (by kernel_rfl) s
def o15_10 : List Lite := [⟨some 2, 30, .assign (.const (.int .i64 (10))), none⟩]
theorem rg15_10 (s : St) : codeX P hints hint15 (r15 10) s = (runL P call hint15 o15_10 s).bind fun s' => some (.normal, prune [2] s') := rg_eq (id := 10) (by kernel_rfl) (by kernel_rfl) s
def o15_11 : List Lite := [⟨some 29, 3, .binOp .add 3 (.tmp 21) (.const (.int .i64 (1))) 3, none⟩,
 ⟨some 21, 3, .move (.tmp 29), none⟩]
theorem rg15_11 (s : St) : codeX P hints hint15 (r15 11) s = (runL P call hint15 o15_11 s).bind fun s' => some (.normal, prune [1, 19, 20, 21] s') := rg_eq (id := 11) (by kernel_rfl) (by kernel_rfl) s
def o15_12 : List Lite := [⟨some 30, 0, .fieldAddr 26 (.tmp 1) 1, none⟩,
 ⟨some 31, 23, .load 23 (.tmp 30), none⟩,
 ⟨some 32, 3, .call { callee := .builtin .len, args := #[(.tmp 31)], argTypes := #[23] }, none⟩,
 ⟨some 33, 3, .move (.const (.int .i64 (0))), none⟩]
theorem rg15_12 (s : St) : codeX P hints hint15 (r15 12) s = (runL P call hint15 o15_12 s).bind fun s' => some (.normal, prune [1, 31, 32, 33] s') := rg_eq (id := 12) (by kernel_rfl) (by kernel_rfl) s
def o15_13 : List Lite := [⟨some 34, 0, .binOp .lss 3 (.tmp 33) (.tmp 32) 3, none⟩]
theorem rg15_13 (s : St) : codeX P hints hint15 (r15 13) s = (runL P call hint15 o15_13 s).bind fun s' => some (.normal, prune [1, 31, 32, 33, 34] s') := rg_eq (id := 13) (by kernel_rfl) (by kernel_rfl) s
def o15_14 : List Lite := [⟨some 35, 0, .indexAddr 23 (.tmp 31) (.tmp 33), none⟩,
 ⟨some 36, 39, .load 39 (.tmp 35), none⟩,
 ⟨some 7, 39, .assign (.tmp 36), none⟩]
theorem rg15_14 (s : St) : codeX P hints hint15 (r15 14) s = (runL P call hint15 o15_14 s).bind fun s' => some (.normal, prune [1, 7, 31, 32, 33] s') := rg_eq (id := 14) (by kernel_rfl) (by kernel_rfl) s
def o15_15 : List Lite := [⟨some 37, 39, .move (.tmp 7), none⟩,
 ⟨some 38, 63, .makeFunc (.func 27) #[] #[(.tmp 1)], none⟩,
 ⟨some 39, 4, .call { callee := .value (.func 26), args := #[(.tmp 37), (.tmp 38)], argTypes := #[39, 63] }, none⟩]
theorem rg15_15 (s : St) : codeX P hints hint15 (r15 15) s = (runL P call hint15 o15_15 s).bind fun s' => some (.normal, prune [1, 31, 32, 33, 39] s') := rg_eq (id := 15) (by kernel_rfl) (by kernel_rfl) s
def o15_16 : List Lite := [⟨some 2, 30, .assign (.const (.int .i64 (10))), none⟩]
theorem rg15_16 (s : St) : codeX P hints hint15 (r15 16) s = (runL P call hint15 o15_16 s).bind fun s' => some (.normal, prune [2] s') := rg_eq (id := 16) (by kernel_rfl) (by kernel_rfl) s
def o15_17 : List Lite := [⟨some 40, 3, .binOp .add 3 (.tmp 33) (.const (.int .i64 (1))) 3, none⟩,
 ⟨some 33, 3, .move (.tmp 40), none⟩]
theorem rg15_17 (s : St) : codeX P hints hint15 (r15 17) s = (runL P call hint15 o15_17 s).bind fun s' => some (.normal, prune [1, 31, 32, 33] s') := rg_eq (id := 17) (by kernel_rfl) (by kernel_rfl) s
def o15_18 : List Lite := [⟨some 2, 30, .assign (.const (.int .i64 (0))), none⟩]
theorem rg15_18 (s : St) : codeX P hints hint15 (r15 18) s = (runL P call hint15 o15_18 s).bind fun s' => some (.normal, prune [2] s') := rg_eq (id := 18) (by kernel_rfl) (by kernel_rfl) s
noncomputable def L15_0 : Code := .loop (.seq (r15 7) (.seq (.cond (.tmp 22) .skip (.exit 0)) (.seq (.block 1 (.seq (r15 8) (.seq (r15 9) (.cond (.tmp 28) (.seq (r15 10) .ret) .skip)))) (r15 11))))
noncomputable def L15_1 : Code := .loop (.seq (r15 13) (.seq (.cond (.tmp 34) .skip (.exit 2)) (.seq (.block 3 (.seq (r15 14) (.seq (r15 15) (.cond (.tmp 39) (.seq (r15 16) .ret) .skip)))) (r15 17))))
theorem eq15 (ds : List D) (H : List Ob) (hl : ds.length = 1) : call 15 ds H = (codeX P hints hint15 (.seq (r15 0) (.seq (r15 1) (.seq (.seq (r15 2) (.cond (.tmp 12) (.seq (r15 3) .ret) .skip)) (.seq (.seq (r15 4) (.cond (.tmp 17) (.seq (r15 5) .ret) .skip)) (.seq (.seq (r15 6) (.block 0 L15_0)) (.seq (.seq (r15 12) (.block 2 L15_1)) (.seq (r15 18) .ret))))))) (enter ds H)).bind (leaveR P false [.tmp 2] H.length) :=
  callX_leave Try.func15 (by kernel_rfl) hl (by kernel_rfl) (by kernel_rfl) rfl
noncomputable def b16 : Code := Try.f16.body.getD .skip
noncomputable def r16 (id : Nat) : Code := rg b16 id
def o16_0 : List Lite := [⟨some 3, 0, .box 26 (.tmp 0), none⟩,
 ⟨some 6, 4, .assign (.const (.bool false)), none⟩]
theorem rg16_0 (s : St) : codeX P hints hint16 (r16 0) s = (runL P call hint16 o16_0 s).bind fun s' => some (.normal, prune [1, 2, 3] s') := rg_eq (id := 0) (by kernel_rfl) (by kernel_rfl) s
def o16_1 : List Lite := [⟨some 9, 27, .move (.tmp 1), none⟩,
 ⟨some 10, 3, .call { callee := .builtin .len, args := #[(.tmp 9)], argTypes := #[27] }, none⟩,
 ⟨some 11, 0, .fieldAddr 26 (.tmp 3) 1, none⟩,
 ⟨some 12, 23, .load 23 (.tmp 11), none⟩,
 ⟨some 13, 3, .call { callee := .builtin .len, args := #[(.tmp 12)], argTypes := #[23] }, none⟩,
 ⟨some 14, 4, .binOp .neq 3 (.tmp 10) (.tmp 13) 3, none⟩]
theorem rg16_1 (s : St) : codeX P hints hint16 (r16 1) s = (runL P call hint16 o16_1 s).bind fun s' => some (.normal, prune [1, 2, 14] s') := rg_eq (id := 1) (by kernel_rfl) (by kernel_rfl) s
def o16_2 : List Lite := [⟨some 6, 4, .assign (.const (.bool false)), none⟩]
theorem rg16_2 (s : St) : codeX P hints hint16 (r16 2) s = (runL P call hint16 o16_2 s).bind fun s' => some (.normal, prune [6] s') := rg_eq (id := 2) (by kernel_rfl) (by kernel_rfl) s
def o16_3 : List Lite := [⟨some 15, 27, .move (.tmp 1), none⟩,
 ⟨some 16, 3, .call { callee := .builtin .len, args := #[(.tmp 15)], argTypes := #[27] }, none⟩,
 ⟨some 17, 3, .move (.const (.int .i64 (0))), none⟩]
theorem rg16_3 (s : St) : codeX P hints hint16 (r16 3) s = (runL P call hint16 o16_3 s).bind fun s' => some (.normal, prune [2, 15, 16, 17] s') := rg_eq (id := 3) (by kernel_rfl) (by kernel_rfl) s
def o16_4 : List Lite := [⟨some 18, 0, .binOp .lss 3 (.tmp 17) (.tmp 16) 3, none⟩]
theorem rg16_4 (s : St) : codeX P hints hint16 (r16 4) s = (runL P call hint16 o16_4 s).bind fun s' => some (.normal, prune [2, 15, 16, 17, 18] s') := rg_eq (id := 4) (by kernel_rfl) (by kernel_rfl) s
def o16_5 : List Lite := [⟨some 19, 0, .indexAddr 27 (.tmp 15) (.tmp 17), none⟩,
 ⟨some 20, 38, .load 38 (.tmp 19), none⟩,
 ⟨some 8, 38, .assign (.tmp 20), none⟩]
theorem rg16_5 (s : St) : codeX P hints hint16 (r16 5) s = (runL P call hint16 o16_5 s).bind fun s' => some (.normal, prune [2, 8, 15, 16, 17] s') := rg_eq (id := 5) (by kernel_rfl) (by kernel_rfl) s
def o16_6 : List Lite := [⟨some 21, 38, .move (.tmp 8), none⟩,
 ⟨some 22, 3, .call { callee := .builtin .len, args := #[(.tmp 21)], argTypes := #[38] }, none⟩,
 ⟨some 23, 22, .move (.tmp 2), none⟩,
 ⟨some 24, 3, .call { callee := .builtin .len, args := #[(.tmp 23)], argTypes := #[22] }, none⟩,
 ⟨some 25, 4, .binOp .neq 3 (.tmp 22) (.tmp 24) 3, none⟩]
theorem rg16_6 (s : St) : codeX P hints hint16 (r16 6) s = (runL P call hint16 o16_6 s).bind fun s' => some (.normal, prune [2, 15, 16, 17, 25] s') := rg_eq (id := 6) (by kernel_rfl) (by kernel_rfl) s
def o16_7 : List Lite := [⟨some 6, 4, .assign (.const (.bool false)), none⟩]
theorem rg16_7 (s : St) : codeX P hints hint16 (r16 7) s = (runL P call hint16 o16_7 s).bind fun s' => some (.normal, prune [6] s') := rg_eq (id := 7) (by kernel_rfl) (by kernel_rfl) s
def o16_8 : List Lite := [⟨some 26, 3, .binOp .add 3 (.tmp 17) (.const (.int .i64 (1))) 3, none⟩,
 ⟨some 17, 3, .move (.tmp 26), none⟩]
theorem rg16_8 (s : St) : codeX P hints hint16 (r16 8) s = (runL P call hint16 o16_8 s).bind fun s' => some (.normal, prune [2, 15, 16, 17] s') := rg_eq (id := 8) (by kernel_rfl) (by kernel_rfl) s
def o16_9 : List Lite := [⟨some 6, 4, .assign (.const (.bool true)), none⟩]
theorem rg16_9 (s : St) : codeX P hints hint16 (r16 9) s = (runL P call hint16 o16_9 s).bind fun s' => some (.normal, prune [6] s') := rg_eq (id := 9) (by kernel_rfl) (by kernel_rfl) s
noncomputable def L16_0 : Code := .loop (.seq (r16 4) (.seq (.cond (.tmp 18) .skip (.exit 0)) (.seq (.block 1 (.seq (r16 5) (.seq (r16 6) (.cond (.tmp 25) (.seq (r16 7) .ret) .skip)))) (r16 8))))
theorem eq16 (ds : List D) (H : List Ob) (hl : ds.length = 3) : call 16 ds H = (codeX P hints hint16 (.seq (r16 0) (.seq (.seq (r16 1) (.cond (.tmp 14) (.seq (r16 2) .ret) .skip)) (.seq (.seq (r16 3) (.block 0 L16_0)) (.seq (r16 9) .ret)))) (enter ds H)).bind (leaveR P false [.tmp 6] H.length) :=
  callX_leave Try.func16 (by kernel_rfl) hl (by kernel_rfl) (by kernel_rfl) rfl
noncomputable def b17 : Code := Try.f17.body.getD .skip
noncomputable def r17 (id : Nat) : Code := rg b17 id
def o17_0 : List Lite := [⟨some 4, 22, .assign (.const (.slice none 0 0)), none⟩]
theorem rg17_0 (s : St) : codeX P hints hint17 (r17 0) s = (runL P call hint17 o17_0 s).bind fun s' => some (.normal, prune [0, 1] s') := rg_eq (id := 0) (by kernel_rfl) (by kernel_rfl) s
def o17_1 : List Lite := [⟨some 5, 22, .assign (.const (.slice none 0 0)), none⟩]
theorem rg17_1 (s : St) : codeX P hints hint17 (r17 1) s = (runL P call hint17 o17_1 s).bind fun s' => some (.normal, prune [0, 1, 5] s') := rg_eq (id := 1) (by kernel_rfl) (by kernel_rfl) s
def o17_2 : List Lite := [⟨some 9, 22, .move (.tmp 1), none⟩,
 ⟨some 10, 3, .call { callee := .builtin .len, args := #[(.tmp 9)], argTypes := #[22] }, none⟩,
 ⟨some 11, 3, .move (.const (.int .i64 (0))), none⟩]
theorem rg17_2 (s : St) : codeX P hints hint17 (r17 2) s = (runL P call hint17 o17_2 s).bind fun s' => some (.normal, prune [0, 5, 9, 10, 11] s') := rg_eq (id := 2) (by kernel_rfl) (by kernel_rfl) s
def o17_3 : List Lite := [⟨some 12, 0, .binOp .lss 3 (.tmp 11) (.tmp 10) 3, none⟩]
theorem rg17_3 (s : St) : codeX P hints hint17 (r17 3) s = (runL P call hint17 o17_3 s).bind fun s' => some (.normal, prune [0, 5, 9, 10, 11, 12] s') := rg_eq (id := 3) (by kernel_rfl) (by kernel_rfl) s
def o17_4 : List Lite := [⟨some 13, 0, .indexAddr 22 (.tmp 9) (.tmp 11), none⟩,
 ⟨some 14, 3, .load 3 (.tmp 13), none⟩,
 ⟨some 7, 3, .assign (.tmp 14), none⟩]
theorem rg17_4 (s : St) : codeX P hints hint17 (r17 4) s = (runL P call hint17 o17_4 s).bind fun s' => some (.normal, prune [0, 5, 7, 9, 10, 11] s') := rg_eq (id := 4) (by kernel_rfl) (by kernel_rfl) s
def o17_5 : List Lite := [⟨some 15, 46, .move (.tmp 0), none⟩,
 ⟨some 16, 3, .move (.tmp 7), none⟩,
 ⟨some 17, 53, .build 53 #[(0, (.tmp 16)), (1, (.const (.int .i64 (-1))))], none⟩,
 ⟨some 18, 3, .call { callee := .value (.func 18), args := #[(.tmp 15), (.tmp 17)], argTypes := #[46, 53] }, none⟩,
 ⟨some 8, 3, .assign (.tmp 18), none⟩]
theorem rg17_5 (s : St) : codeX P hints hint17 (r17 5) s = (runL P call hint17 o17_5 s).bind fun s' => some (.normal, prune [0, 5, 8, 9, 10, 11] s') := rg_eq (id := 5) (by kernel_rfl) (by kernel_rfl) s
def o17_6 : List Lite := [⟨some 19, 3, .move (.tmp 8), none⟩,
 ⟨some 20, 22, .move (.tmp 5), none⟩,
 ⟨some 21, 3, .call { callee := .builtin .len, args := #[(.tmp 20)], argTypes := #[22] }, none⟩,
 ⟨some 22, 4, .binOp .eql 3 (.tmp 19) (.tmp 21) 3, none⟩]
theorem rg17_6 (s : St) : codeX P hints hint17 (r17 6) s = (runL P call hint17 o17_6 s).bind fun s' => some (.normal, prune [0, 5, 8, 9, 10, 11, 22] s') := rg_eq (id := 6) (by kernel_rfl) (by kernel_rfl) s
def o17_7 : List Lite := [⟨some 23, 22, .move (.tmp 5), none⟩,
 ⟨some 24, 3, .move (.tmp 8), none⟩,
 ⟨some 25, 22, .buildSlice 22 1 #[(0, (.tmp 24))], none⟩,
 ⟨some 26, 22, .call { callee := .builtin .append, args := #[(.tmp 23), (.tmp 25)], argTypes := #[22, 22] }, none⟩,
 ⟨some 5, 22, .assign (.tmp 26), none⟩]
theorem rg17_7 (s : St) : codeX P hints hint17 (r17 7) s = (runL P call hint17 o17_7 s).bind fun s' => some (.normal, prune [0, 5, 9, 10, 11] s') := rg_eq (id := 7) (by kernel_rfl) (by kernel_rfl) s
def o17_8 : List Lite := [⟨some 27, 3, .binOp .add 3 (.tmp 11) (.const (.int .i64 (1))) 3, none⟩,
 ⟨some 11, 3, .move (.tmp 27), none⟩]
theorem rg17_8 (s : St) : codeX P hints hint17 (r17 8) s = (runL P call hint17 o17_8 s).bind fun s' => some (.normal, prune [0, 5, 9, 10, 11] s') := rg_eq (id := 8) (by kernel_rfl) (by kernel_rfl) s
def o17_9 : List Lite := [⟨some 28, 22, .move (.tmp 5), none⟩,
 ⟨some 4, 22, .assign (.tmp 28), none⟩]
theorem rg17_9 (s : St) : codeX P hints hint17 (r17 9) s = (runL P call hint17 o17_9 s).bind fun s' => some (.normal, prune [4] s') := rg_eq (id := 9) (by kernel_rfl) (by kernel_rfl) s
noncomputable def L17_0 : Code := .loop (.seq (r17 3) (.seq (.cond (.tmp 12) .skip (.exit 0)) (.seq (.block 1 (.seq (r17 4) (.seq (r17 5) (.seq (r17 6) (.cond (.tmp 22) (r17 7) .skip))))) (r17 8))))
theorem eq17 (ds : List D) (H : List Ob) (hl : ds.length = 2) : call 17 ds H = (codeX P hints hint17 (.seq (r17 0) (.seq (r17 1) (.seq (.seq (r17 2) (.block 0 L17_0)) (.seq (r17 9) .ret)))) (enter ds H)).bind (leaveR P false [.tmp 4] H.length) :=
  callX_leave Try.func17 (by kernel_rfl) hl (by kernel_rfl) (by kernel_rfl) rfl
noncomputable def b18 : Code := Try.f18.body.getD .skip
noncomputable def r18 (id : Nat) : Code := rg b18 id
def o18_0 : List Lite := [⟨some 3, 0, .box 53 (.tmp 1), none⟩,
 ⟨some 4, 3, .assign (.const (.int .i64 (0))), none⟩]
theorem rg18_0 (s : St) : codeX P hints hint18 (r18 0) s = (runL P call hint18 o18_0 s).bind fun s' => some (.normal, prune [0, 3] s') := rg_eq (id := 0) (by kernel_rfl) (by kernel_rfl) s
def o18_1 : List LF := [⟨some 8, none, 46, .move (.tmp 0), [0], [], false, false, false, false, true⟩,
 ⟨some 9, none, 0, .nilCheck (.tmp 8), [8], [], false, false, false, false, true⟩,
 ⟨some 10, none, 0, .fieldAddr 50 (.tmp 9) 0, [9], [], false, false, true, false, true⟩,
 ⟨some 11, none, 47, .load 47 (.tmp 10), [10], [], false, false, true, false, true⟩,
 ⟨some 12, none, 53, .load 53 (.tmp 3), [3], [], false, false, true, false, true⟩,
 ⟨some 13, none, 64, .lookup 47 (.tmp 11) (.tmp 12) true, [11, 12], [], false, false, true, false, true⟩,
 ⟨some 7, none, 64, .move (.tmp 13), [13], [], false, false, false, false, true⟩,
 ⟨some 14, none, 3, .extract (.tmp 7) 0, [7], [], false, false, false, false, true⟩,
 ⟨some 15, none, 4, .extract (.tmp 7) 1, [7], [], true, false, false, false, true⟩,
 ⟨some 5, none, 3, .assign (.tmp 14), [14], [8], false, true, true, false, false⟩,
 ⟨some 6, none, 4, .assign (.tmp 15), [15], [], false, true, true, false, false⟩]
theorem rg18_1 (s : St) : codeX P hints hint18 (r18 1) s = (runC P call hint18 o18_1 (s, hist0 s) []).bind fun s' => some (.normal, prune [0, 3, 5, 6] s') := rgD_eq (id := 1) (ns := [false, false, false, false, false, false, false, false, true, false, false]) (us := [[], [], [], [], [], [], [], [], [], [8], []]) (by kernel_rfl) (by kernel_rfl) s
def o18_2 : List Lite := [⟨some 16, 4, .move (.tmp 6), none⟩,
 ⟨some 17, 4, .unOp .not 4 (.tmp 16), none⟩]
theorem rg18_2 (s : St) : codeX P hints hint18 (r18 2) s = (runL P call hint18 o18_2 s).bind fun s' => some (.normal, prune [0, 3, 5, 17] s') := rg_eq (id := 2) (by kernel_rfl) (by kernel_rfl) s
def o18_3 : List Lite := [⟨some 18, 46, .move (.tmp 0), none⟩,
 ⟨some 19, 0, .nilCheck (.tmp 18), none⟩,
 ⟨some 20, 0, .fieldAddr 50 (.tmp 19) 1, none⟩,
 ⟨some 21, 48, .load 48 (.tmp 20), none⟩,
 ⟨some 22, 3, .call { callee := .builtin .len, args := #[(.tmp 21)], argTypes := #[48] }, none⟩,
 ⟨some 5, 3, .assign (.tmp 22), none⟩]
theorem rg18_3 (s : St) : codeX P hints hint18 (r18 3) s = (runL P call hint18 o18_3 s).bind fun s' => some (.normal, prune [0, 3, 5] s') := rg_eq (id := 3) (by kernel_rfl) (by kernel_rfl) s
def o18_4 : List LF := [⟨some 23, none, 46, .move (.tmp 0), [0], [], false, false, false, false, true⟩,
 ⟨some 24, none, 0, .nilCheck (.tmp 23), [23], [], false, false, false, false, true⟩,
 ⟨some 25, none, 0, .fieldAddr 50 (.tmp 24) 0, [24], [], false, false, true, false, true⟩,
 ⟨some 26, none, 47, .load 47 (.tmp 25), [25], [], false, false, true, false, true⟩,
 ⟨some 27, none, 53, .load 53 (.tmp 3), [3], [], false, false, true, false, true⟩,
 ⟨some 28, none, 3, .move (.tmp 5), [5], [], false, false, false, false, true⟩,
 ⟨none, none, 0, .mapUpdate 47 (.tmp 26) (.tmp 27) (.tmp 28), [26, 27, 28], [], false, true, true, false, true⟩]
theorem rg18_4 (s : St) : codeX P hints hint18 (r18 4) s = (runC P call hint18 o18_4 (s, hist0 s) []).bind fun s' => some (.normal, prune [0, 3, 5] s') := rgD_eq (id := 4) (ns := [false, false, false, false, false, false, false]) (us := [[], [], [], [], [], [], []]) (by kernel_rfl) (by kernel_rfl) s
def o18_5 : List LF := [⟨some 29, none, 46, .move (.tmp 0), [0], [], true, false, false, false, true⟩,
 ⟨some 30, none, 46, .move (.tmp 0), [0], [], false, false, false, false, true⟩,
 ⟨some 31, none, 0, .nilCheck (.tmp 30), [30], [], false, false, false, false, true⟩,
 ⟨some 32, none, 0, .fieldAddr 50 (.tmp 31) 1, [31], [], false, false, true, false, true⟩,
 ⟨some 33, none, 48, .load 48 (.tmp 32), [32], [], false, false, true, false, true⟩,
 ⟨some 34, none, 53, .load 53 (.tmp 3), [3], [], false, false, true, false, true⟩,
 ⟨some 35, none, 48, .buildSlice 48 1 #[(0, (.tmp 34))], [34], [], false, false, true, false, false⟩,
 ⟨some 36, none, 48, .call { callee := .builtin .append, args := #[(.tmp 33), (.tmp 35)], argTypes := #[48, 48] }, [33, 35], [0], false, true, true, false, false⟩,
 ⟨some 37, none, 0, .nilCheck (.tmp 29), [29], [], false, false, false, false, true⟩,
 ⟨some 38, none, 0, .fieldAddr 50 (.tmp 37) 1, [37], [], false, false, true, false, true⟩,
 ⟨none, none, 0, .store 48 (.tmp 38) (.tmp 36), [38, 36], [], false, true, true, false, false⟩]
theorem rg18_5 (s : St) : codeX P hints hint18 (r18 5) s = (runC P call hint18 o18_5 (s, hist0 s) []).bind fun s' => some (.normal, prune [5] s') := rgD_eq (id := 5) (ns := [true, false, false, false, false, false, false, false, false, false, false]) (us := [[], [], [], [], [], [], [], [0], [], [], []]) (by kernel_rfl) (by kernel_rfl) s
def o18_6 : List Lite := [⟨some 39, 3, .move (.tmp 5), none⟩,
 ⟨some 4, 3, .assign (.tmp 39), none⟩]
theorem rg18_6 (s : St) : codeX P hints hint18 (r18 6) s = (runL P call hint18 o18_6 s).bind fun s' => some (.normal, prune [4] s') := rg_eq (id := 6) (by kernel_rfl) (by kernel_rfl) s
theorem eq18 (ds : List D) (H : List Ob) (hl : ds.length = 2) : call 18 ds H = (codeX P hints hint18 (.seq (r18 0) (.seq (r18 1) (.seq (.seq (r18 2) (.cond (.tmp 17) (.seq (r18 3) (.seq (r18 4) (r18 5))) .skip)) (.seq (r18 6) .ret)))) (enter ds H)).bind (leaveR P false [.tmp 4] H.length) :=
  callX_leave Try.func18 (by kernel_rfl) hl (by kernel_rfl) (by kernel_rfl) rfl
noncomputable def b19 : Code := Try.f19.body.getD .skip
noncomputable def r19 (id : Nat) : Code := rg b19 id
def o19_0 : List Lite := [⟨some 2, 3, .assign (.const (.int .i64 (0))), none⟩]
theorem rg19_0 (s : St) : codeX P hints hint19 (r19 0) s = (runL P call hint19 o19_0 s).bind fun s' => some (.normal, prune [0] s') := rg_eq (id := 0) (by kernel_rfl) (by kernel_rfl) s
def o19_1 : List Lite := [⟨some 3, 3, .move (.tmp 0), none⟩,
 ⟨some 4, 4, .binOp .lss 3 (.tmp 3) (.const (.int .i64 (0))) 3, none⟩]
theorem rg19_1 (s : St) : codeX P hints hint19 (r19 1) s = (runL P call hint19 o19_1 s).bind fun s' => some (.normal, prune [0, 4] s') := rg_eq (id := 1) (by kernel_rfl) (by kernel_rfl) s
def o19_2 : List Lite := [⟨some 2, 3, .assign (.const (.int .i64 (-1))), none⟩]
theorem rg19_2 (s : St) : codeX P hints hint19 (r19 2) s = (runL P call hint19 o19_2 s).bind fun s' => some (.normal, prune [2] s') := rg_eq (id := 2) (by kernel_rfl) (by kernel_rfl) s
def o19_3 : List Lite := [⟨some 5, 3, .move (.tmp 0), none⟩,
 ⟨some 6, 3, .binOp .quo 3 (.tmp 5) (.const (.int .i64 (2))) 3, none⟩,
 ⟨some 2, 3, .assign (.tmp 6), none⟩]
theorem rg19_3 (s : St) : codeX P hints hint19 (r19 3) s = (runL P call hint19 o19_3 s).bind fun s' => some (.normal, prune [2] s') := rg_eq (id := 3) (by kernel_rfl) (by kernel_rfl) s
theorem eq19 (ds : List D) (H : List Ob) (hl : ds.length = 1) : call 19 ds H = (codeX P hints hint19 (.seq (r19 0) (.seq (.seq (r19 1) (.cond (.tmp 4) (.seq (r19 2) .ret) .skip)) (.seq (r19 3) .ret))) (enter ds H)).bind (leaveR P false [.tmp 2] H.length) :=
  callX_leave Try.func19 (by kernel_rfl) hl (by kernel_rfl) (by kernel_rfl) rfl
noncomputable def b20 : Code := Try.f20.body.getD .skip
noncomputable def r20 (id : Nat) : Code := rg b20 id
def o20_0 : List Lite := [⟨some 6, 4, .assign (.const (.bool false)), none⟩]
theorem rg20_0 (s : St) : codeX P hints hint20 (r20 0) s = (runL P call hint20 o20_0 s).bind fun s' => some (.normal, prune [0, 1, 2] s') := rg_eq (id := 0) (by kernel_rfl) (by kernel_rfl) s
def o20_1 : List Lite := [⟨some 8, 27, .move (.tmp 0), none⟩,
 ⟨some 9, 3, .call { callee := .builtin .len, args := #[(.tmp 8)], argTypes := #[27] }, none⟩,
 ⟨some 10, 3, .move (.tmp 1), none⟩,
 ⟨some 11, 4, .binOp .neq 3 (.tmp 9) (.tmp 10) 3, none⟩]
theorem rg20_1 (s : St) : codeX P hints hint20 (r20 1) s = (runL P call hint20 o20_1 s).bind fun s' => some (.normal, prune [0, 2, 11] s') := rg_eq (id := 1) (by kernel_rfl) (by kernel_rfl) s
def o20_2 : List Lite := [⟨some 6, 4, .assign (.const (.bool false)), none⟩]
theorem rg20_2 (s : St) : codeX P hints hint20 (r20 2) s = (runL P call hint20 o20_2 s).bind fun s' => some (.normal, prune [6] s') := rg_eq (id := 2) (by kernel_rfl) (by kernel_rfl) s
def o20_3 : List Lite := [⟨some 7, 3, .assign (.const (.int .i64 (0))), none⟩]
theorem rg20_3 (s : St) : codeX P hints hint20 (r20 3) s = (runL P call hint20 o20_3 s).bind fun s' => some (.normal, prune [0, 2, 7] s') := rg_eq (id := 3) (by kernel_rfl) (by kernel_rfl) s
def o20_4 : List Lite := [⟨some 12, 3, .move (.tmp 7), none⟩,
 ⟨some 13, 27, .move (.tmp 0), none⟩,
 ⟨some 14, 3, .call { callee := .builtin .len, args := #[(.tmp 13)], argTypes := #[27] }, none⟩,
 ⟨some 15, 4, .binOp .lss 3 (.tmp 12) (.tmp 14) 3, none⟩]
theorem rg20_4 (s : St) : codeX P hints hint20 (r20 4) s = (runL P call hint20 o20_4 s).bind fun s' => some (.normal, prune [0, 2, 7, 15] s') := rg_eq (id := 4) (by kernel_rfl) (by kernel_rfl) s
def o20_6 : List Lite := [⟨some 18, 27, .move (.tmp 0), none⟩,
 ⟨some 19, 3, .move (.tmp 7), none⟩,
 ⟨some 20, 0, .indexAddr 27 (.tmp 18) (.tmp 19), none⟩,
 ⟨some 21, 38, .load 38 (.tmp 20), none⟩,
 ⟨some 22, 3, .call { callee := .builtin .len, args := #[(.tmp 21)], argTypes := #[38] }, none⟩,
 ⟨some 23, 3, .move (.tmp 2), none⟩,
 ⟨some 24, 4, .binOp .neq 3 (.tmp 22) (.tmp 23) 3, none⟩]
theorem rg20_6 (s : St) : codeX P hints hint20 (r20 6) s = (runL P call hint20 o20_6 s).bind fun s' => some (.normal, prune [0, 2, 7, 24] s') := rg_eq (id := 6) (by kernel_rfl) (by kernel_rfl) s
def o20_7 : List Lite := [⟨some 6, 4, .assign (.const (.bool false)), none⟩]
theorem rg20_7 (s : St) : codeX P hints hint20 (r20 7) s = (runL P call hint20 o20_7 s).bind fun s' => some (.normal, prune [6] s') := rg_eq (id := 7) (by kernel_rfl) (by kernel_rfl) s
def o20_5 : List Lite := [⟨some 16, 3, .move (.tmp 7), none⟩,
 ⟨some 17, 3, .binOp .add 3 (.tmp 16) (.const (.int .i64 (1))) 3, none⟩,
 ⟨some 7, 3, .assign (.tmp 17), none⟩]
theorem rg20_5 (s : St) : codeX P hints hint20 (r20 5) s = (runL P call hint20 o20_5 s).bind fun s' => some (.normal, prune [0, 2, 7] s') := rg_eq (id := 5) (by kernel_rfl) (by kernel_rfl) s
def o20_8 : List Lite := [⟨some 6, 4, .assign (.const (.bool true)), none⟩]
theorem rg20_8 (s : St) : codeX P hints hint20 (r20 8) s = (runL P call hint20 o20_8 s).bind fun s' => some (.normal, prune [6] s') := rg_eq (id := 8) (by kernel_rfl) (by kernel_rfl) s
noncomputable def L20_0 : Code := .loop (.seq (.seq (r20 4) (.cond (.tmp 15) .skip (.exit 0))) (.seq (.block 1 (.seq (r20 6) (.cond (.tmp 24) (.seq (r20 7) .ret) .skip))) (r20 5)))
theorem eq20 (ds : List D) (H : List Ob) (hl : ds.length = 3) : call 20 ds H = (codeX P hints hint20 (.seq (r20 0) (.seq (.seq (r20 1) (.cond (.tmp 11) (.seq (r20 2) .ret) .skip)) (.seq (.seq (r20 3) (.block 0 L20_0)) (.seq (r20 8) .ret)))) (enter ds H)).bind (leaveR P false [.tmp 6] H.length) :=
  callX_leave Try.func20 (by kernel_rfl) hl (by kernel_rfl) (by kernel_rfl) rfl
noncomputable def b21 : Code := Try.f21.body.getD .skip
noncomputable def r21 (id : Nat) : Code := rg b21 id
def o21_0 : List Lite := [⟨some 3, 0, .box 59 (.tmp 1), none⟩,
 ⟨some 4, 3, .assign (.const (.int .i64 (0))), none⟩]
theorem rg21_0 (s : St) : codeX P hints hint21 (r21 0) s = (runL P call hint21 o21_0 s).bind fun s' => some (.normal, prune [0, 3] s') := rg_eq (id := 0) (by kernel_rfl) (by kernel_rfl) s
def o21_1 : List Lite := [⟨some 5, 3, .assign (.const (.int .i64 (0))), none⟩]
theorem rg21_1 (s : St) : codeX P hints hint21 (r21 1) s = (runL P call hint21 o21_1 s).bind fun s' => some (.normal, prune [0, 3, 5] s') := rg_eq (id := 1) (by kernel_rfl) (by kernel_rfl) s
def o21_2 : List Lite := [⟨some 6, 3, .move (.tmp 5), none⟩,
 ⟨some 7, 57, .move (.tmp 0), none⟩,
 ⟨some 8, 3, .call { callee := .builtin .len, args := #[(.tmp 7)], argTypes := #[57] }, none⟩,
 ⟨some 9, 4, .binOp .lss 3 (.tmp 6) (.tmp 8) 3, none⟩]
theorem rg21_2 (s : St) : codeX P hints hint21 (r21 2) s = (runL P call hint21 o21_2 s).bind fun s' => some (.normal, prune [0, 3, 5, 9] s') := rg_eq (id := 2) (by kernel_rfl) (by kernel_rfl) s
def o21_4 : List Lite := [⟨some 12, 57, .move (.tmp 0), none⟩,
 ⟨some 13, 3, .move (.tmp 5), none⟩,
 ⟨some 14, 0, .indexAddr 57 (.tmp 12) (.tmp 13), none⟩,
 ⟨some 15, 59, .load 59 (.tmp 14), none⟩,
 ⟨some 16, 59, .load 59 (.tmp 3), none⟩,
 ⟨some 17, 4, .binOp .eql 59 (.tmp 15) (.tmp 16) 59, none⟩]
theorem rg21_4 (s : St) : codeX P hints hint21 (r21 4) s = (runL P call hint21 o21_4 s).bind fun s' => some (.normal, prune [0, 3, 5, 17] s') := rg_eq (id := 4) (by kernel_rfl) (by kernel_rfl) s
def o21_5 : List Lite := [⟨some 18, 3, .move (.tmp 5), none⟩,
 ⟨some 4, 3, .assign (.tmp 18), none⟩]
theorem rg21_5 (s : St) : codeX P hints hint21 (r21 5) s = (runL P call hint21 o21_5 s).bind fun s' => some (.normal, prune [4] s') := rg_eq (id := 5) (by kernel_rfl) (by kernel_rfl) s
def o21_3 : List Lite := [⟨some 10, 3, .move (.tmp 5), none⟩,
 ⟨some 11, 3, .binOp .add 3 (.tmp 10) (.const (.int .i64 (1))) 3, none⟩,
 ⟨some 5, 3, .assign (.tmp 11), none⟩]
theorem rg21_3 (s : St) : codeX P hints hint21 (r21 3) s = (runL P call hint21 o21_3 s).bind fun s' => some (.normal, prune [0, 3, 5] s') := rg_eq (id := 3) (by kernel_rfl) (by kernel_rfl) s
def o21_6 : List Lite := [⟨some 4, 3, .assign (.const (.int .i64 (-1))), none⟩]
theorem rg21_6 (s : St) : codeX P hints hint21 (r21 6) s = (runL P call hint21 o21_6 s).bind fun s' => some (.normal, prune [4] s') := rg_eq (id := 6) (by kernel_rfl) (by kernel_rfl) s
noncomputable def L21_0 : Code := .loop (.seq (.seq (r21 2) (.cond (.tmp 9) .skip (.exit 0))) (.seq (.block 1 (.seq (r21 4) (.cond (.tmp 17) (.seq (r21 5) .ret) .skip))) (r21 3)))
theorem eq21 (ds : List D) (H : List Ob) (hl : ds.length = 2) : call 21 ds H = (codeX P hints hint21 (.seq (r21 0) (.seq (.seq (r21 1) (.block 0 L21_0)) (.seq (r21 6) .ret))) (enter ds H)).bind (leaveR P false [.tmp 4] H.length) :=
  callX_leave Try.func21 (by kernel_rfl) hl (by kernel_rfl) (by kernel_rfl) rfl
noncomputable def b22 : Code := Try.f22.body.getD .skip
noncomputable def r22 (id : Nat) : Code := rg b22 id
def o22_0 : List Lite := [⟨some 2, 3, .assign (.const (.int .i64 (0))), none⟩]
theorem rg22_0 (s : St) : codeX P hints hint22 (r22 0) s = (runL P call hint22 o22_0 s).bind fun s' => some (.normal, prune [0] s') := rg_eq (id := 0) (by kernel_rfl) (by kernel_rfl) s
def o22_1 : List Lite := [⟨some 3, 3, .move (.tmp 0), none⟩,
 ⟨some 4, 4, .binOp .lss 3 (.tmp 3) (.const (.int .i64 (0))) 3, none⟩]
theorem rg22_1 (s : St) : codeX P hints hint22 (r22 1) s = (runL P call hint22 o22_1 s).bind fun s' => some (.normal, prune [0, 4] s') := rg_eq (id := 1) (by kernel_rfl) (by kernel_rfl) s
def o22_2 : List Lite := [⟨some 2, 3, .assign (.const (.int .i64 (-1))), none⟩]
theorem rg22_2 (s : St) : codeX P hints hint22 (r22 2) s = (runL P call hint22 o22_2 s).bind fun s' => some (.normal, prune [2] s') := rg_eq (id := 2) (by kernel_rfl) (by kernel_rfl) s
def o22_3 : List Lite := [⟨some 5, 3, .move (.tmp 0), none⟩,
 ⟨some 6, 3, .binOp .quo 3 (.tmp 5) (.const (.int .i64 (2))) 3, none⟩,
 ⟨some 2, 3, .assign (.tmp 6), none⟩]
theorem rg22_3 (s : St) : codeX P hints hint22 (r22 3) s = (runL P call hint22 o22_3 s).bind fun s' => some (.normal, prune [2] s') := rg_eq (id := 3) (by kernel_rfl) (by kernel_rfl) s
theorem eq22 (ds : List D) (H : List Ob) (hl : ds.length = 1) : call 22 ds H = (codeX P hints hint22 (.seq (r22 0) (.seq (.seq (r22 1) (.cond (.tmp 4) (.seq (r22 2) .ret) .skip)) (.seq (r22 3) .ret))) (enter ds H)).bind (leaveR P false [.tmp 2] H.length) :=
  callX_leave Try.func22 (by kernel_rfl) hl (by kernel_rfl) (by kernel_rfl) rfl
noncomputable def b24 : Code := Try.f24.body.getD .skip
noncomputable def r24 (id : Nat) : Code := rg b24 id
def o24_0 : List Lite := [⟨some 2, 0, .box 26 (.tmp 0), none⟩,
 ⟨some 4, 4, .assign (.const (.bool false)), none⟩]
theorem rg24_0 (s : St) : codeX P hints hint24 (r24 0) s = (runL P call hint24 o24_0 s).bind fun s' => some (.normal, prune [1, 2] s') := rg_eq (id := 0) (by kernel_rfl) (by kernel_rfl) s
def o24_1 : List Lite := [⟨some 5, 3, .move (.tmp 1), none⟩,
 ⟨some 6, 4, .binOp .geq 3 (.tmp 5) (.const (.int .i64 (0))) 3, none⟩,
 ⟨some 7, 4, .move (.tmp 6), none⟩,
 ⟨some 8, 3, .move (.tmp 1), some (7, true)⟩,
 ⟨some 9, 0, .fieldAddr 26 (.tmp 2) 1, some (7, true)⟩,
 ⟨some 10, 23, .load 23 (.tmp 9), some (7, true)⟩,
 ⟨some 11, 3, .call { callee := .builtin .len, args := #[(.tmp 10)], argTypes := #[23] }, some (7, true)⟩,
 ⟨some 12, 4, .binOp .lss 3 (.tmp 8) (.tmp 11) 3, some (7, true)⟩,
 ⟨some 13, 4, .pick (.tmp 7) (.tmp 12) (.const (.bool false)), none⟩,
 ⟨some 4, 4, .assign (.tmp 13), none⟩]
theorem rg24_1 (s : St) : codeX P hints hint24 (r24 1) s = (runL P call hint24 o24_1 s).bind fun s' => some (.normal, prune [4] s') := rg_eq (id := 1) (by kernel_rfl) (by kernel_rfl) s
theorem eq24 (ds : List D) (H : List Ob) (hl : ds.length = 2) : call 24 ds H = (codeX P hints hint24 (.seq (r24 0) (.seq (r24 1) .ret)) (enter ds H)).bind (leaveR P false [.tmp 4] H.length) :=
  callX_leave Try.func24 (by kernel_rfl) hl (by kernel_rfl) (by kernel_rfl) rfl
noncomputable def b25 : Code := Try.f25.body.getD .skip
noncomputable def r25 (id : Nat) : Code := rg b25 id
def o25_0 : List Lite := [⟨some 2, 0, .box 26 (.tmp 0), none⟩,
 ⟨some 4, 4, .assign (.const (.bool false)), none⟩]
theorem rg25_0 (s : St) : codeX P hints hint25 (r25 0) s = (runL P call hint25 o25_0 s).bind fun s' => some (.normal, prune [1, 2] s') := rg_eq (id := 0) (by kernel_rfl) (by kernel_rfl) s
def o25_1 : List Lite := [⟨some 5, 3, .move (.tmp 1), none⟩,
 ⟨some 6, 4, .binOp .geq 3 (.tmp 5) (.const (.int .i64 (0))) 3, none⟩,
 ⟨some 7, 4, .move (.tmp 6), none⟩,
 ⟨some 8, 3, .move (.tmp 1), some (7, true)⟩,
 ⟨some 9, 0, .fieldAddr 26 (.tmp 2) 1, some (7, true)⟩,
 ⟨some 10, 23, .load 23 (.tmp 9), some (7, true)⟩,
 ⟨some 11, 3, .call { callee := .builtin .len, args := #[(.tmp 10)], argTypes := #[23] }, some (7, true)⟩,
 ⟨some 12, 4, .binOp .lss 3 (.tmp 8) (.tmp 11) 3, some (7, true)⟩,
 ⟨some 13, 4, .pick (.tmp 7) (.tmp 12) (.const (.bool false)), none⟩,
 ⟨some 4, 4, .assign (.tmp 13), none⟩]
theorem rg25_1 (s : St) : codeX P hints hint25 (r25 1) s = (runL P call hint25 o25_1 s).bind fun s' => some (.normal, prune [4] s') := rg_eq (id := 1) (by kernel_rfl) (by kernel_rfl) s
theorem eq25 (ds : List D) (H : List Ob) (hl : ds.length = 2) : call 25 ds H = (codeX P hints hint25 (.seq (r25 0) (.seq (r25 1) .ret)) (enter ds H)).bind (leaveR P false [.tmp 4] H.length) :=
  callX_leave Try.func25 (by kernel_rfl) hl (by kernel_rfl) (by kernel_rfl) rfl
noncomputable def b26 : Code := Try.f26.body.getD .skip
noncomputable def r26 (id : Nat) : Code := rg b26 id
def o26_0 : List Lite := [⟨some 4, 4, .assign (.const (.bool false)), none⟩]
theorem rg26_0 (s : St) : codeX P hints hint26 (r26 0) s = (runL P call hint26 o26_0 s).bind fun s' => some (.normal, prune [0, 1] s') := rg_eq (id := 0) (by kernel_rfl) (by kernel_rfl) s
def o26_1 : List Lite := [⟨some 5, 39, .move (.tmp 0), none⟩,
 ⟨some 6, 63, .move (.tmp 1), none⟩,
 ⟨some 7, 3, .call { callee := .value (.func 28), args := #[(.tmp 5), (.tmp 6)], argTypes := #[39, 63] }, none⟩,
 ⟨some 8, 4, .binOp .geq 3 (.tmp 7) (.const (.int .i64 (0))) 3, none⟩,
 ⟨some 4, 4, .assign (.tmp 8), none⟩]
theorem rg26_1 (s : St) : codeX P hints hint26 (r26 1) s = (runL P call hint26 o26_1 s).bind fun s' => some (.normal, prune [4] s') := rg_eq (id := 1) (by kernel_rfl) (by kernel_rfl) s
theorem eq26 (ds : List D) (H : List Ob) (hl : ds.length = 2) : call 26 ds H = (codeX P hints hint26 (.seq (r26 0) (.seq (r26 1) .ret)) (enter ds H)).bind (leaveR P false [.tmp 4] H.length) :=
  callX_leave Try.func26 (by kernel_rfl) hl (by kernel_rfl) (by kernel_rfl) rfl
noncomputable def b27 : Code := Try.f27.body.getD .skip
noncomputable def r27 (id : Nat) : Code := rg b27 id
def o27_0 : List Lite := [⟨some 2, 0, .box 41 (.tmp 0), none⟩,
 ⟨some 3, 4, .assign (.const (.bool false)), none⟩]
theorem rg27_0 (s : St) : codeX P hints hint27 (r27 0) s = (runL P call hint27 o27_0 s).bind fun s' => some (.normal, prune [1, 2] s') := rg_eq (id := 0) (by kernel_rfl) (by kernel_rfl) s
def o27_1 : List Lite := [⟨some 4, 26, .load 26 (.tmp 1), none⟩,
 ⟨some 5, 0, .fieldAddr 41 (.tmp 2) 0, none⟩,
 ⟨some 6, 3, .load 3 (.tmp 5), none⟩,
 ⟨some 7, 4, .call { callee := .value (.func 25), args := #[(.tmp 4), (.tmp 6)], argTypes := #[26, 3] }, none⟩,
 ⟨some 8, 4, .unOp .not 4 (.tmp 7), none⟩,
 ⟨some 3, 4, .assign (.tmp 8), none⟩]
theorem rg27_1 (s : St) : codeX P hints hint27 (r27 1) s = (runL P call hint27 o27_1 s).bind fun s' => some (.normal, prune [3] s') := rg_eq (id := 1) (by kernel_rfl) (by kernel_rfl) s
theorem eq27 (ds : List D) (H : List Ob) (hl : ds.length = 2) : call 27 ds H = (codeX P hints hint27 (.seq (r27 0) (.seq (r27 1) .ret)) (enter ds H)).bind (leaveR P false [.tmp 3] H.length) :=
  callX_leave Try.func27 (by kernel_rfl) hl (by kernel_rfl) (by kernel_rfl) rfl
noncomputable def b28 : Code := Try.f28.body.getD .skip
noncomputable def r28 (id : Nat) : Code := rg b28 id
def o28_0 : List Lite := [⟨some 4, 3, .assign (.const (.int .i64 (0))), none⟩]
theorem rg28_0 (s : St) : codeX P hints hint28 (r28 0) s = (runL P call hint28 o28_0 s).bind fun s' => some (.normal, prune [0, 1] s') := rg_eq (id := 0) (by kernel_rfl) (by kernel_rfl) s
def o28_1 : List Lite := [⟨some 6, 39, .move (.tmp 0), none⟩,
 ⟨some 7, 3, .call { callee := .builtin .len, args := #[(.tmp 6)], argTypes := #[39] }, none⟩,
 ⟨some 8, 3, .move (.const (.int .i64 (0))), none⟩]
theorem rg28_1 (s : St) : codeX P hints hint28 (r28 1) s = (runL P call hint28 o28_1 s).bind fun s' => some (.normal, prune [0, 1, 7, 8] s') := rg_eq (id := 1) (by kernel_rfl) (by kernel_rfl) s
def o28_2 : List Lite := [⟨some 9, 0, .binOp .lss 3 (.tmp 8) (.tmp 7) 3, none⟩]
theorem rg28_2 (s : St) : codeX P hints hint28 (r28 2) s = (runL P call hint28 o28_2 s).bind fun s' => some (.normal, prune [0, 1, 7, 8, 9] s') := rg_eq (id := 2) (by kernel_rfl) (by kernel_rfl) s
def o28_3 : List Lite := [⟨some 10, 3, .move (.tmp 8), none⟩,
 ⟨some 5, 3, .assign (.tmp 10), none⟩]
theorem rg28_3 (s : St) : codeX P hints hint28 (r28 3) s = (runL P call hint28 o28_3 s).bind fun s' => some (.normal, prune [0, 1, 5, 7, 8] s') := rg_eq (id := 3) (by kernel_rfl) (by kernel_rfl) s
def o28_4 : List Lite := [⟨some 11, 63, .move (.tmp 1), none⟩,
 ⟨some 12, 39, .move (.tmp 0), none⟩,
 ⟨some 13, 3, .move (.tmp 5), none⟩,
 ⟨some 14, 0, .indexAddr 39 (.tmp 12) (.tmp 13), none⟩,
 ⟨some 15, 41, .load 41 (.tmp 14), none⟩,
 ⟨some 16, 4, .call { callee := .value (.tmp 11), args := #[(.tmp 15)], argTypes := #[41] }, none⟩]
theorem rg28_4 (s : St) : codeX P hints hint28 (r28 4) s = (runL P call hint28 o28_4 s).bind fun s' => some (.normal, prune [0, 1, 5, 7, 8, 16] s') := rg_eq (id := 4) (by kernel_rfl) (by kernel_rfl) s
def o28_5 : List Lite := [⟨some 17, 3, .move (.tmp 5), none⟩,
 ⟨some 4, 3, .assign (.tmp 17), none⟩]
theorem rg28_5 (s : St) : codeX P hints hint28 (r28 5) s = (runL P call hint28 o28_5 s).bind fun s' => some (.normal, prune [4] s') := rg_eq (id := 5) (by kernel_rfl) (by kernel_rfl) s
def o28_6 : List Lite := [⟨some 18, 3, .binOp .add 3 (.tmp 8) (.const (.int .i64 (1))) 3, none⟩,
 ⟨some 8, 3, .move (.tmp 18), none⟩]
theorem rg28_6 (s : St) : codeX P hints hint28 (r28 6) s = (runL P call hint28 o28_6 s).bind fun s' => some (.normal, prune [0, 1, 7, 8] s') := rg_eq (id := 6) (by kernel_rfl) (by kernel_rfl) s
def o28_7 : List Lite := [⟨some 4, 3, .assign (.const (.int .i64 (-1))), none⟩]
theorem rg28_7 (s : St) : codeX P hints hint28 (r28 7) s = (runL P call hint28 o28_7 s).bind fun s' => some (.normal, prune [4] s') := rg_eq (id := 7) (by kernel_rfl) (by kernel_rfl) s
noncomputable def L28_0 : Code := .loop (.seq (r28 2) (.seq (.cond (.tmp 9) .skip (.exit 0)) (.seq (.block 1 (.seq (r28 3) (.seq (r28 4) (.cond (.tmp 16) (.seq (r28 5) .ret) .skip)))) (r28 6))))
theorem eq28 (ds : List D) (H : List Ob) (hl : ds.length = 2) : call 28 ds H = (codeX P hints hint28 (.seq (r28 0) (.seq (.seq (r28 1) (.block 0 L28_0)) (.seq (r28 7) .ret))) (enter ds H)).bind (leaveR P false [.tmp 4] H.length) :=
  callX_leave Try.func28 (by kernel_rfl) hl (by kernel_rfl) (by kernel_rfl) rfl
end Go.Fair
namespace Go.Am
open Go
set_option linter.unusedSimpArgs false
set_option linter.unusedVariables false
section
variable {α β γ δ : Type}
def iterN (f : α → Option (α ⊕ β)) : Nat → α → Option β
  | 0, _ => none
  | n + 1, x => (f x).bind fun r => match r with | .inl y => iterN f n y | .inr z => some z
theorem iterN_le {f : α → Option (α ⊕ β)} : ∀ (n : Nat) {x : α} {r : β}, iterN f n x = some r → iterN f (n + 1) x = some r
  | 0, x, r, e => by cases e
  | n + 1, x, r, e => by
    simp only [iterN, Option.bind_eq_some_iff] at e
    obtain ⟨y, e1, e2⟩ := e
    rw [iterN, e1, Option.bind_some]
    cases y with
    | inl y => exact iterN_le n e2
    | inr z => exact e2
theorem iterN_mono {f : α → Option (α ⊕ β)} {n m : Nat} (h : n ≤ m) {x : α} {r : β} (e : iterN f n x = some r) : iterN f m x = some r := by
  induction h with
  | refl => exact e
  | step _ ih => exact iterN_le _ ih
noncomputable def iter (f : α → Option (α ⊕ β)) (x : α) : Option β := lim fun n => iterN f n x
theorem iter_iff {f : α → Option (α ⊕ β)} {x : α} {r : β} : iter f x = some r ↔ ∃ n, iterN f n x = some r :=
  lim_iff fun n m r h e => iterN_mono h e
theorem iter_eq (f : α → Option (α ⊕ β)) (x : α) : iter f x = (f x).bind fun r => match r with | .inl y => iter f y | .inr z => some z := by
  refine ext_some fun r => ?_
  rw [iter_iff, Option.bind_eq_some_iff]
  constructor
  · rintro ⟨n, e⟩
    cases n with
    | zero => cases e
    | succ n =>
      simp only [iterN, Option.bind_eq_some_iff] at e
      obtain ⟨y, e1, e2⟩ := e
      refine ⟨y, e1, ?_⟩
      cases y with
      | inl y => exact iter_iff.2 ⟨n, e2⟩
      | inr z => exact e2
  · rintro ⟨y, e1, e2⟩
    cases y with
    | inl y =>
      obtain ⟨n, e3⟩ := iter_iff.1 e2
      exact ⟨n + 1, by rw [iterN, e1, Option.bind_some]; exact e3⟩
    | inr z => exact ⟨1, by rw [iterN, e1, Option.bind_some]; exact e2⟩
theorem iter_inl {f : α → Option (α ⊕ β)} {x y : α} (h : f x = some (.inl y)) : iter f x = iter f y := by rw [iter_eq, h]; rfl
theorem iter_inr {f : α → Option (α ⊕ β)} {x : α} {z : β} (h : f x = some (.inr z)) : iter f x = some z := by rw [iter_eq, h]; rfl
end
section
variable {P : Program} {hints : FuncId → Hint} {h : Hint} {X Y : Type}
def stepK (S : X → St) (K : Y → Ex × St) : X ⊕ Y → Ex × St
  | .inl x => (.normal, S x)
  | .inr y => K y
theorem loop_iter {a : Code} {S : X → St} {K : Y → Ex × St} {f : X → Option (X ⊕ Y)} (hf : ∀ x, codeX P hints h a (S x) = (f x).map (stepK S K)) (hK : ∀ y, (K y).1 ≠ .normal) (x : X) :
    codeX P hints h (.loop a) (S x) = (iter f x).map K := by
  refine ext_some fun r => ?_
  rw [codeX_iff, Option.map_eq_some_iff]
  have one : ∀ (n : Nat) (s : St) (e : Ex × St), codeN P (callN P hints n) h n a s = some e → codeX P hints h a s = some e := fun n s e he => codeX_iff.2 ⟨n, he⟩
  constructor
  · rintro ⟨n, e⟩
    simp only [codeN] at e
    have : ∀ (m : Nat) (x : X), loopN (codeN P (callN P hints n) h n a) m (S x) = some r → ∃ y, iter f x = some y ∧ K y = r := by
      intro m
      induction m with
      | zero => intro x e; cases e
      | succ m ih =>
        intro x e
        simp only [loopN, Option.bind_eq_some_iff] at e
        obtain ⟨⟨ex, s'⟩, e1, e2⟩ := e
        have e3 := one _ _ _ e1
        rw [hf, Option.map_eq_some_iff] at e3
        obtain ⟨z, e4, e5⟩ := e3
        cases z with
        | inl y =>
          simp only [stepK, Prod.mk.injEq] at e5
          obtain ⟨rfl, rfl⟩ := e5
          rw [iter_inl e4]
          exact ih y e2
        | inr y =>
          simp only [stepK] at e5
          refine ⟨y, iter_inr e4, ?_⟩
          have := hK y
          rw [e5] at this ⊢
          cases ex with
          | normal => exact absurd rfl this
          | exit i => simpa using e2
          | ret => simpa using e2
    exact this n x e
  · rintro ⟨y, e, rfl⟩
    obtain ⟨m, e⟩ := iter_iff.1 e
    have : ∀ (m : Nat) (x : X), iterN f m x = some y → codeX P hints h (.loop a) (S x) = some (K y) := by
      intro m
      induction m with
      | zero => intro x e; cases e
      | succ m ih =>
        intro x e
        simp only [iterN, Option.bind_eq_some_iff] at e
        obtain ⟨z, e1, e2⟩ := e
        rw [codeX_loop, hf, e1, Option.map_some, Option.bind_some]
        cases z with
        | inl z => exact ih z e2
        | inr z =>
          simp only [Option.some.injEq] at e2
          subst e2
          have := hK z
          show thenX P hints h (.loop a) (K z) = _
          cases hz : K z with
          | mk ex s =>
            rw [hz] at this
            cases ex with
            | normal => exact absurd rfl this
            | exit i => rfl
            | ret => rfl
    exact codeX_iff.1 (this m x e)
end
def loopBody : Code → Code | .loop c => c | c => c
section
variable {P : Program} {hints : FuncId → Hint} {h : Hint} {X Y : Type}
theorem loop_iterK {a : Code} {K : X ⊕ Y → Ex × St} {f : X → Option (X ⊕ Y)} (hf : ∀ x, codeX P hints h a (K (.inl x)).2 = (f x).map K) (hn : ∀ x, (K (.inl x)).1 = .normal) (hK : ∀ y, (K (.inr y)).1 ≠ .normal) (x : X) :
    codeX P hints h (.loop a) (K (.inl x)).2 = (iter f x).map fun y => K (.inr y) := by
  refine loop_iter (S := fun x => (K (.inl x)).2) (K := fun y => K (.inr y)) (fun x => ?_) hK x
  rw [hf]
  congr 1
  funext z
  cases z with
  | inl z => exact Prod.ext (hn z) rfl
  | inr z => rfl
end
section
variable {α β γ : Type}
theorem bind_ite {c : Prop} [Decidable c] {a b : Option α} {g : α → Option γ} : (if c then a else b).bind g = if c then a.bind g else b.bind g := by split <;> rfl
theorem bind_map {o : Option α} {f : α → β} {g : β → Option γ} : (o.map f).bind g = o.bind fun x => g (f x) := by cases o <;> rfl
def case2 (o : Option (α ⊕ β)) (f : α → Option γ) (g : β → Option γ) : Option γ := o.bind fun r => match r with | .inl a => f a | .inr b => g b
theorem case2_bind {δ : Type} {o : Option (α ⊕ β)} {f : α → Option γ} {g : β → Option γ} {k : γ → Option δ} : (case2 o f g).bind k = case2 o (fun a => (f a).bind k) (fun b => (g b).bind k) := by
  cases o with
  | none => rfl
  | some r => cases r <;> rfl
theorem map_1 {o : Option α} {g : α → β} : o.map g = o.bind fun y => some (g y) := by cases o <;> rfl
theorem map_2 {γ : Type} {o : Option (α ⊕ β)} {g : α ⊕ β → γ} : o.map g = case2 o (fun y => some (g (.inl y))) (fun y => some (g (.inr y))) := by
  cases o with
  | none => rfl
  | some r => cases r <;> rfl
theorem map_3 {γ δ : Type} {o : Option (α ⊕ (β ⊕ γ))} {g : α ⊕ (β ⊕ γ) → δ} : o.map g = case2 o (fun y => some (g (.inl y))) (fun r => case2 (some r) (fun y => some (g (.inr (.inl y)))) (fun y => some (g (.inr (.inr y))))) := by
  cases o with
  | none => rfl
  | some r => rcases r with _ | _ | _ <;> rfl
theorem pull_ite {K : α → β} {c : Prop} [Decidable c] {a b : Option α} : (if c then a.map K else b.map K) = (if c then a else b).map K := by split <;> rfl
theorem pull_iteL {K : α → β} {c : Prop} [Decidable c] {a : Option α} : (if c then a.map K else none) = (if c then a else none).map K := by split <;> rfl
theorem pull_iteR {K : α → β} {c : Prop} [Decidable c] {a : Option α} : (if c then none else a.map K) = (if c then none else a).map K := by split <;> rfl
theorem pull_bind {K : α → β} {o : Option γ} {g : γ → Option α} : (o.bind fun x => (g x).map K) = (o.bind g).map K := by cases o <;> rfl
theorem pull_case {δ : Type} {K : α → β} {o : Option (γ ⊕ δ)} {f : γ → Option α} {g : δ → Option α} : case2 o (fun x => (f x).map K) (fun y => (g y).map K) = (case2 o f g).map K := by
  cases o with
  | none => rfl
  | some r => cases r <;> rfl
theorem pull_caseL {δ : Type} {K : α → β} {o : Option (γ ⊕ δ)} {f : γ → Option α} : case2 o (fun x => (f x).map K) (fun _ => none) = (case2 o f fun _ => none).map K := by
  cases o with
  | none => rfl
  | some r => cases r <;> rfl
theorem pull_caseR {δ : Type} {K : α → β} {o : Option (γ ⊕ δ)} {g : δ → Option α} : case2 o (fun _ => none) (fun y => (g y).map K) = (case2 o (fun _ => none) g).map K := by
  cases o with
  | none => rfl
  | some r => cases r <;> rfl
theorem kk (K : α → β) (x : α) : some (K x) = (some x).map K := rfl
theorem kn (K : α → β) (x : α) (z : β) (h : K x = z) : some z = (some x).map K := by rw [← h]; rfl
theorem pulls : (∀ {α β : Type} {K : α → β} {c : Prop} [Decidable c] {a b : Option α}, (if c then a.map K else b.map K) = (if c then a else b).map K) ∧
    (∀ {α β : Type} {K : α → β} {c : Prop} [Decidable c] {a : Option α}, (if c then a.map K else none) = (if c then a else none).map K) ∧
    (∀ {α β : Type} {K : α → β} {c : Prop} [Decidable c] {a : Option α}, (if c then none else a.map K) = (if c then none else a).map K) ∧
    (∀ {α β γ : Type} {K : α → β} {o : Option γ} {g : γ → Option α}, (o.bind fun x => (g x).map K) = (o.bind g).map K) ∧
    (∀ {α β γ δ : Type} {K : α → β} {o : Option (γ ⊕ δ)} {f : γ → Option α} {g : δ → Option α}, case2 o (fun x => (f x).map K) (fun y => (g y).map K) = (case2 o f g).map K) ∧
    (∀ {α β γ δ : Type} {K : α → β} {o : Option (γ ⊕ δ)} {f : γ → Option α}, case2 o (fun x => (f x).map K) (fun _ => none) = (case2 o f fun _ => none).map K) ∧
    (∀ {α β γ δ : Type} {K : α → β} {o : Option (γ ⊕ δ)} {g : δ → Option α}, case2 o (fun _ => none) (fun y => (g y).map K) = (case2 o (fun _ => none) g).map K) :=
  ⟨pull_ite, pull_iteL, pull_iteR, pull_bind, pull_case, pull_caseL, pull_caseR⟩
theorem len_snoc {l : List α} {x : α} : (l ++ [x]).length = l.length + 1 := by simp
end
section
variable {P : Program} {call : CallF} {h : Hint} {d : Option Nat} {ty : TypeId} {op : Op} {r : List Lite} {env : List (Nat × SV)} {ct : List ((Nat × Nat) × T)} {H : List Ob} {b : Bool}
@[go_sem high] theorem guardL_boolF : guardL P call h d ty op false r ⟨env, ct, H⟩ (.d (.bool b)) = if b = true then runL P call h r (St.fin ⟨env, ct, H⟩ d (.tup []) ⟨ct, H, []⟩) else (stepE P call h (d.getD 0) ty op (St.val ⟨env, ct, H⟩) ⟨ct, H, []⟩).bind fun p => nextL P call h d r ⟨env, ct, H⟩ p.1 p.2 := by
  cases b <;> simp [guardL_bool]
@[go_sem high] theorem guardC_boolF {o : LF} {r : List LF} {c : Cf} {acc : List Fp} : guardC P call h o false r c acc (.d (.bool b)) = if b = true then nextC P call h o r c acc false (.tup []) c.1.wk else (stepE P call h (o.d.getD 0) o.ty o.op c.1.val c.1.wk).bind fun p => nextC P call h o r c acc true p.1 p.2 := by
  cases b <;> simp [guardC_bool]
end
@[reducible] def eI (n : Int) : D := .int .i64 n
@[reducible] def eB (b : Bool) : D := .bool b
@[reducible] def eS (s : List UInt8) : D := .str s
@[reducible] def eK (k : IntKind) (n : Int) : D := .int k n
def tl {α : Type} (f : α → D) (l : List α) : List T := l.map fun x => .d (f x)
section
variable {α : Type} {f : α → D} {l : List α} {x : α} {b : Bool}
attribute [go_sem] D.imm D.imms D.lend D.lends
theorem imms_map (h : ∀ x, (f x).imm = true) : D.imms (l.map f) = true := by induction l <;> simp_all [D.imms]
theorem lends_to {g : α → D} (h : ∀ x, (f x).lend = g x) : D.lends (l.map f) = l.map g := by induction l <;> simp_all [D.lends]
theorem lends_same (h : ∀ x, (f x).lend = f x) : D.lends (l.map f) = l.map f := lends_to h
theorem lows_map {n : Nat} (h : ∀ x, (f x).low n = true) : D.lows n (l.map f) = true := by induction l <;> simp_all [D.lows]
@[go_sem] theorem tl_nil : tl f [] = [] := rfl
@[go_sem] theorem tl_len : (tl f l).length = l.length := by simp [tl]
@[go_sem] theorem tl_get {i : Nat} : (tl f l)[i]? = (l[i]?).map fun x => .d (f x) := by simp [tl]
theorem tl_snoc : tl f l ++ [.d (f x)] = tl f (l ++ [x]) := by simp [tl]
@[go_sem] theorem tl_take {n : Nat} : (tl f l).take n = tl f (l.take n) := by simp [tl, List.map_take]
@[go_sem] theorem tl_drop {n : Nat} : (tl f l).drop n = tl f (l.drop n) := by simp [tl, List.map_drop]
theorem uniform_tl {n : Nat} (h : ∀ x, (f x).nc = n) : uniform n (tl f l) = true := by
  induction l with
  | nil => rfl
  | cons a r ih => simp only [tl, List.map_cons, uniform_cons] at ih ⊢; rw [ih]; simp [T.nc, h]
theorem frzs_tl (h : ∀ x, (f x).norm = f x) : T.frzs b (tl f l) = some (l.map f) := by
  induction l with
  | nil => rfl
  | cons a r ih => simp only [tl, List.map_cons, T.frzs, T.frz, h] at ih ⊢; rw [ih]; rfl
@[go_sem] theorem take_len_map {β : Type} {g : α → β} : (l.map g).take l.length = l.map g := List.take_of_length_le (by simp)
@[go_sem] theorem take_snoc_map {β : Type} {g : α → β} : ((l ++ [x]).map g).take (l.length + 1) = (l ++ [x]).map g := List.take_of_length_le (by simp)
@[go_sem] theorem tlI_snoc {l : List Int} {k : IntKind} {n : Int} : tl (eK k) l ++ [.d (.int k n)] = tl (eK k) (l ++ [n]) := by simp [tl]
@[go_sem high] theorem tlI64_snoc {l : List Int} {n : Int} : tl eI l ++ [.d (.int .i64 n)] = tl eI (l ++ [n]) := by simp [tl]
@[go_sem] theorem tlB_snoc {l : List Bool} {n : Bool} : tl eB l ++ [.d (.bool n)] = tl eB (l ++ [n]) := by simp [tl]
@[go_sem high] theorem tlI64_set {l : List Int} {n : Int} {i : Nat} : (tl eI l).set i (.d (.int .i64 n)) = tl eI (l.set i n) := by simp [tl, List.map_set]
@[go_sem] theorem tlB_set {l : List Bool} {n : Bool} {i : Nat} : (tl eB l).set i (.d (.bool n)) = tl eB (l.set i n) := by simp [tl, List.map_set]
def tlo (f : α → D) (l : List (List α)) : List T := l.map fun r => .own (tl f r)
section
variable {l : List (List α)} {r : List α}
theorem tlo_rep {n : Nat} : tlo f (List.replicate n []) = List.replicate n (.own []) := by simp [tlo, tl]
@[go_sem] theorem tlo_len : (tlo f l).length = l.length := by simp [tlo]
@[go_sem] theorem tlo_get {i : Nat} : (tlo f l)[i]? = (l[i]?).map fun r => .own (tl f r) := by simp [tlo]
@[go_sem] theorem tlo_set {i : Nat} : (tlo f l).set i (.own (tl f r)) = tlo f (l.set i r) := by simp [tlo, List.map_set]
theorem frzs_tlo {g : List α → D} (h : ∀ x, (f x).norm = f x) (hg : ∀ r, g r = .sl b (r.map f)) : T.frzs b (tlo f l) = some (l.map g) := by
  induction l with
  | nil => rfl
  | cons a r ih => simp only [tlo, List.map_cons, T.frzs, T.frz, frzs_tl h, Option.map_some, Option.bind_some, ← hg] at ih ⊢; rw [ih]; rfl
end
@[go_sem high] theorem rep_i64 {n : Nat} {z : Int} : List.replicate n (T.d (.int .i64 z)) = tl eI (List.replicate n z) := by simp [tl]
@[go_sem] theorem rep_bool {n : Nat} {z : Bool} : List.replicate n (T.d (.bool z)) = tl eB (List.replicate n z) := by simp [tl]
@[go_sem] theorem cellsSV_nil {r : Root} {p : Path} {i o : Nat} : cellsSV r p i o [] = some [] := rfl
@[go_sem] theorem cellsSV_cons {r : Root} {p : Path} {i o : Nat} {t : T} {l : List T} : cellsSV r p i o (t :: l) = (cellSV r p i o t).bind fun x => (cellsSV r p i (o + 1) l).bind fun xs => some (x :: xs) := by
  simp only [cellsSV, Option.map_eq_bind]; rfl
def lockA (H : List Ob) : List Ob := lockAll H
@[go_sem high] theorem callE_lock {call : CallF} {h : Hint} {dst : Nat} {f : FuncId} {ds : List D} {b : Lend} {ct : List ((Nat × Nat) × T)} {H : List Ob} {tr : List Tr} : callE call h dst f ds b ⟨ct, H, tr⟩ = if h.keep.contains dst = true then
      (call f ds (lockA H)).bind fun p => if p.2.length = H.length ∧ (b.sn = true → T.imms p.1 = true) then resE dst p.1 ⟨ct, H, tr⟩ else none
    else (call f ds (lockSome b.lk H)).bind fun p =>
      if (b.sn = true → T.imms p.1 = true ∧ obsImm p.2 = true) ∧ sameObs (lockSome b.lk H) p.2 = true then resE dst p.1 ⟨ct, unlock H b.lk p.2, tr ++ [.killO]⟩ else none := callE_mk
@[go_sem] theorem lockA_len {H : List Ob} : (lockA H).length = H.length := lockAll_len
attribute [go_sem] sameObs_self T.imms T.imm T.lows T.low D.low D.lows
attribute [go_sem] canon eI eB eS eK bind_ite bind_map Option.bind_assoc case2_bind trunc List.getElem?_cons_zero List.getElem?_cons_succ List.length_cons List.length_nil List.length_map decide_true decide_false Int.natCast_nonneg Int.toNat_natCast List.getElem?_map Option.map_some Option.map_none Bool.false_eq_true win List.take_zero List.drop_zero List.take_succ_cons List.drop_succ_cons
end
end Go.Am
