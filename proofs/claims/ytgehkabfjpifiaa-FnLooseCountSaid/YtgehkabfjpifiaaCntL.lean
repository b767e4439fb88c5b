/- How many permutations are loose: by the kernel. -/
import Derived.Test.YtgehkabfjpifiaaCounts
namespace Go.Proofs.Ytgehkabfjpifiaa.S
set_option maxRecDepth 1000000 in
theorem nL1 : (permsF 1 1 []).countP looseB = 1 := by decide +kernel
set_option maxRecDepth 1000000 in
theorem nL2 : (permsF 2 2 []).countP looseB = 2 := by decide +kernel
set_option maxRecDepth 1000000 in
theorem nL3 : (permsF 3 3 []).countP looseB = 6 := by decide +kernel
set_option maxRecDepth 1000000 in
theorem nL4 : (permsF 4 4 []).countP looseB = 22 := by decide +kernel
set_option maxRecDepth 1000000 in
theorem nL5 : (permsF 5 5 []).countP looseB = 90 := by decide +kernel
set_option maxRecDepth 1000000 in
theorem nL6 : (permsF 6 6 []).countP looseB = 394 := by decide +kernel
set_option maxRecDepth 1000000 in
theorem nL7_0 : (permsF 7 6 [0]).countP looseB = 394 := by decide +kernel
set_option maxRecDepth 1000000 in
theorem nL7_1 : (permsF 7 6 [1]).countP looseB = 248 := by decide +kernel
set_option maxRecDepth 1000000 in
theorem nL7_2 : (permsF 7 6 [2]).countP looseB = 180 := by decide +kernel
set_option maxRecDepth 1000000 in
theorem nL7_3 : (permsF 7 6 [3]).countP looseB = 162 := by decide +kernel
set_option maxRecDepth 1000000 in
theorem nL7_4 : (permsF 7 6 [4]).countP looseB = 180 := by decide +kernel
set_option maxRecDepth 1000000 in
theorem nL7_5 : (permsF 7 6 [5]).countP looseB = 248 := by decide +kernel
set_option maxRecDepth 1000000 in
theorem nL7_6 : (permsF 7 6 [6]).countP looseB = 394 := by decide +kernel
theorem nL7 : (permsF 7 7 []).countP looseB = 1806 := by
  have e : permsF 7 7 [] = permsF 7 6 [0] ++ (permsF 7 6 [1] ++ (permsF 7 6 [2] ++ (permsF 7 6 [3] ++ (permsF 7 6 [4] ++ (permsF 7 6 [5] ++ (permsF 7 6 [6] ++ [])))))) := by
    show kids (permsF 7 6) [] 0 7 = _
    simp only [kids, List.not_mem_nil, if_false, List.nil_append]
    rfl
  rw [e]
  simp only [List.countP_append, List.countP_nil, nL7_0, nL7_1, nL7_2, nL7_3, nL7_4, nL7_5, nL7_6]
end Go.Proofs.Ytgehkabfjpifiaa.S
