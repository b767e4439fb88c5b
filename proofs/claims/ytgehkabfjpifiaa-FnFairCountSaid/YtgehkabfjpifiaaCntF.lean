/- How many permutations are fair: by the kernel. -/
import Derived.Test.YtgehkabfjpifiaaCounts
namespace Go.Proofs.Ytgehkabfjpifiaa.S
set_option maxRecDepth 1000000 in
theorem nF1 : (permsF 1 1 []).countP fairB = 1 := by decide +kernel
set_option maxRecDepth 1000000 in
theorem nF2 : (permsF 2 2 []).countP fairB = 2 := by decide +kernel
set_option maxRecDepth 1000000 in
theorem nF3 : (permsF 3 3 []).countP fairB = 6 := by decide +kernel
set_option maxRecDepth 1000000 in
theorem nF4 : (permsF 4 4 []).countP fairB = 22 := by decide +kernel
set_option maxRecDepth 1000000 in
theorem nF5 : (permsF 5 5 []).countP fairB = 92 := by decide +kernel
set_option maxRecDepth 1000000 in
theorem nF6 : (permsF 6 6 []).countP fairB = 422 := by decide +kernel
set_option maxRecDepth 1000000 in
theorem nF7_0 : (permsF 7 6 [0]).countP fairB = 422 := by decide +kernel
set_option maxRecDepth 1000000 in
theorem nF7_1 : (permsF 7 6 [1]).countP fairB = 303 := by decide +kernel
set_option maxRecDepth 1000000 in
theorem nF7_2 : (permsF 7 6 [2]).countP fairB = 215 := by decide +kernel
set_option maxRecDepth 1000000 in
theorem nF7_3 : (permsF 7 6 [3]).countP fairB = 194 := by decide +kernel
set_option maxRecDepth 1000000 in
theorem nF7_4 : (permsF 7 6 [4]).countP fairB = 215 := by decide +kernel
set_option maxRecDepth 1000000 in
theorem nF7_5 : (permsF 7 6 [5]).countP fairB = 303 := by decide +kernel
set_option maxRecDepth 1000000 in
theorem nF7_6 : (permsF 7 6 [6]).countP fairB = 422 := by decide +kernel
theorem nF7 : (permsF 7 7 []).countP fairB = 2074 := by
  have e : permsF 7 7 [] = permsF 7 6 [0] ++ (permsF 7 6 [1] ++ (permsF 7 6 [2] ++ (permsF 7 6 [3] ++ (permsF 7 6 [4] ++ (permsF 7 6 [5] ++ (permsF 7 6 [6] ++ [])))))) := by
    show kids (permsF 7 6) [] 0 7 = _
    simp only [kids, List.not_mem_nil, if_false, List.nil_append]
    rfl
  rw [e]
  simp only [List.countP_append, List.countP_nil, nF7_0, nF7_1, nF7_2, nF7_3, nF7_4, nF7_5, nF7_6]
end Go.Proofs.Ytgehkabfjpifiaa.S
