/-
  A part of the proof that pumicelaw17.StoreOpens returns true for every geometry, key, number and group (a machine over names of blocks, its soundness, the calls of the store for any geometry, the chapter's example as a run). Condition: the listed package variables hold what the program's text lays; the card ties that.
-/
import Derived.Test.YtcfpoldckjmbdaaGreatDoorX31
set_option linter.unusedVariables false
set_option linter.unusedSimpArgs false
set_option linter.unusedSectionVars false
open Go Go.Abm
set_option maxRecDepth 100000
namespace Go.Abm.Seat
noncomputable section
abbrev zi (n : Nat) : AV := .int .i64 (.ofNat n)
abbrev zc (n : Nat) : AV := .int .u8 (.ofNat n)
def rp : Nat → List AV → List AV
  | 0, _ => []
  | n + 1, l => l ++ rp n l
abbrev Qe := Nat × AObj
def q1 : Qe := (1, .cells [.ifc 480 (.ptr 11 0)] true false)
def q104 : Qe := (104, .cells [.bool false, zi 0, .sl 106 0 16 16 none, zi 0, .bool false, zi 0, .sl 107 0 16 16 none, zi 0, .bool false, zi 0, .sl 108 0 16 16 none, zi 0, .bool false, zi 0, .sl 109 0 16 16 none, zi 0, .bool false, zi 0, .sl 110 0 16 16 none, zi 0, .bool false, zi 0, .sl 111 0 16 16 none, zi 0, .bool false, zi 0, .sl 112 0 16 16 none, zi 0, .bool false, zi 0, .sl 113 0 16 16 none, zi 0, .bool false, zi 0, .sl 114 0 16 16 none, zi 0, .bool false, zi 0, .sl 115 0 16 16 none, zi 0, .bool false, zi 0, .sl 116 0 16 16 none, zi 0, .bool false, zi 0, .sl 117 0 16 16 none, zi 0, .bool false, zi 0, .sl 118 0 16 16 none, zi 0, .bool false, zi 0, .sl 119 0 16 16 none, zi 0, .bool false, zi 0, .sl 120 0 16 16 none, zi 0, .bool false, zi 0, .sl 121 0 16 16 none, zi 0] false false)
def q105 : Qe := (105, .cells [zi 16, zi 16, zi 128, zi 2, .sl 104 0 16 16 none, .nils, zi 0, .bool false, zi 0, zi 0] false false)
def q106 : Qe := (106, .cells (rp 16 [zi 0, .nils]) false false)
def q107 : Qe := (107, .cells (rp 16 [zi 0, .nils]) false false)
def q108 : Qe := (108, .cells (rp 16 [zi 0, .nils]) false false)
def q109 : Qe := (109, .cells (rp 16 [zi 0, .nils]) false false)
def q110 : Qe := (110, .cells (rp 16 [zi 0, .nils]) false false)
def q111 : Qe := (111, .cells (rp 16 [zi 0, .nils]) false false)
def q112 : Qe := (112, .cells (rp 16 [zi 0, .nils]) false false)
def q113 : Qe := (113, .cells (rp 16 [zi 0, .nils]) false false)
def q114 : Qe := (114, .cells (rp 16 [zi 0, .nils]) false false)
def q115 : Qe := (115, .cells (rp 16 [zi 0, .nils]) false false)
def q116 : Qe := (116, .cells (rp 16 [zi 0, .nils]) false false)
def q117 : Qe := (117, .cells (rp 16 [zi 0, .nils]) false false)
def q118 : Qe := (118, .cells (rp 16 [zi 0, .nils]) false false)
def q119 : Qe := (119, .cells (rp 16 [zi 0, .nils]) false false)
def q120 : Qe := (120, .cells (rp 16 [zi 0, .nils]) false false)
def q121 : Qe := (121, .cells (rp 16 [zi 0, .nils]) false false)
def q104_1 : Qe := (104, .cells [.bool false, zi 1, .sl 106 0 16 16 none, zi 3, .bool false, zi 1, .sl 107 0 16 16 none, zi 1, .bool false, zi 1, .sl 108 0 16 16 none, zi 1, .bool false, zi 1, .sl 109 0 16 16 none, zi 1, .bool false, zi 1, .sl 110 0 16 16 none, zi 1, .bool false, zi 1, .sl 111 0 16 16 none, zi 1, .bool false, zi 1, .sl 112 0 16 16 none, zi 1, .bool false, zi 1, .sl 113 0 16 16 none, zi 1, .bool false, zi 1, .sl 114 0 16 16 none, zi 1, .bool false, zi 1, .sl 115 0 16 16 none, zi 1, .bool false, zi 1, .sl 116 0 16 16 none, zi 1, .bool false, zi 1, .sl 117 0 16 16 none, zi 1, .bool false, zi 1, .sl 118 0 16 16 none, zi 1, .bool false, zi 1, .sl 119 0 16 16 none, zi 1, .bool false, zi 1, .sl 120 0 16 16 none, zi 1, .bool false, zi 1, .sl 121 0 16 16 none, zi 1] false false)
def q105_1 : Qe := (105, .cells [zi 16, zi 16, zi 128, zi 2, .sl 104 0 16 16 none, .nils, zi 0, .bool false, zi 34, zi 0] false false)
def q106_1 : Qe := (106, .cells ([zi 1, .sl 848 0 128 128 (some 1), zi 1, .sl 4977 0 128 128 (some 1), zi 1, .sl 4981 0 41 41 (some 1)] ++ rp 13 [zi 0, .nils]) false false)
def q107_1 : Qe := (107, .cells ([zi 1, .sl 1101 0 128 128 (some 1)] ++ rp 15 [zi 0, .nils]) false false)
def q108_1 : Qe := (108, .cells ([zi 1, .sl 1354 0 128 128 (some 1)] ++ rp 15 [zi 0, .nils]) false false)
def q109_1 : Qe := (109, .cells ([zi 1, .sl 1607 0 128 128 (some 1)] ++ rp 15 [zi 0, .nils]) false false)
def q110_1 : Qe := (110, .cells ([zi 1, .sl 1860 0 128 128 (some 1)] ++ rp 15 [zi 0, .nils]) false false)
def q111_1 : Qe := (111, .cells ([zi 1, .sl 2113 0 128 128 (some 1)] ++ rp 15 [zi 0, .nils]) false false)
def q112_1 : Qe := (112, .cells ([zi 1, .sl 2366 0 128 128 (some 1)] ++ rp 15 [zi 0, .nils]) false false)
def q113_1 : Qe := (113, .cells ([zi 1, .sl 2619 0 128 128 (some 1)] ++ rp 15 [zi 0, .nils]) false false)
def q114_1 : Qe := (114, .cells ([zi 1, .sl 2872 0 128 128 (some 1)] ++ rp 15 [zi 0, .nils]) false false)
def q115_1 : Qe := (115, .cells ([zi 1, .sl 3125 0 128 128 (some 1)] ++ rp 15 [zi 0, .nils]) false false)
def q116_1 : Qe := (116, .cells ([zi 1, .sl 3378 0 128 128 (some 1)] ++ rp 15 [zi 0, .nils]) false false)
def q117_1 : Qe := (117, .cells ([zi 1, .sl 3631 0 128 128 (some 1)] ++ rp 15 [zi 0, .nils]) false false)
def q118_1 : Qe := (118, .cells ([zi 1, .sl 3884 0 128 128 (some 1)] ++ rp 15 [zi 0, .nils]) false false)
def q119_1 : Qe := (119, .cells ([zi 1, .sl 4137 0 128 128 (some 1)] ++ rp 15 [zi 0, .nils]) false false)
def q120_1 : Qe := (120, .cells ([zi 1, .sl 4390 0 128 128 (some 1)] ++ rp 15 [zi 0, .nils]) false false)
def q121_1 : Qe := (121, .cells ([zi 1, .sl 4643 0 128 128 (some 1)] ++ rp 15 [zi 0, .nils]) false false)
def q234 : Qe := (234, .cells [zi 4, zi 1, zi 0, zi 1, .int .u64 (.ofNat 0), .bool false, zi 2, zi 1, zi 0, zi 0, .int .u64 (.ofNat 0), .bool false, zi 2, zi 1, zi 0, zi 0, .int .u64 (.ofNat 0), .bool false, zi 2, zi 1, zi 0, zi 0, .int .u64 (.ofNat 0), .bool false, zi 2, zi 1, zi 0, zi 0, .int .u64 (.ofNat 0), .bool false, zi 2, zi 1, zi 0, zi 0, .int .u64 (.ofNat 0), .bool false, zi 2, zi 1, zi 0, zi 0, .int .u64 (.ofNat 0), .bool false, zi 2, zi 1, zi 0, zi 0, .int .u64 (.ofNat 0), .bool false, zi 2, zi 1, zi 0, zi 0, .int .u64 (.ofNat 0), .bool false, zi 2, zi 1, zi 0, zi 0, .int .u64 (.ofNat 0), .bool false, zi 2, zi 1, zi 0, zi 0, .int .u64 (.ofNat 0), .bool false, zi 2, zi 1, zi 0, zi 0, .int .u64 (.ofNat 0), .bool false, zi 2, zi 1, zi 0, zi 0, .int .u64 (.ofNat 0), .bool false, zi 2, zi 1, zi 0, zi 0, .int .u64 (.ofNat 0), .bool false, zi 2, zi 1, zi 0, zi 0, .int .u64 (.ofNat 0), .bool false, zi 2, zi 1, zi 0, zi 0, .int .u64 (.ofNat 0), .bool false] false false)
def q296 : Qe := (296, .cells [.ptr 105 0, zi 16, zi 16, zi 128, zi 2, .sl 234 0 16 16 (some 6), .sl 299 0 12 12 none, .int .u64 (.ofNat 1), .bool false] false false)
def q299 : Qe := (299, .cells ([zi 0] ++ rp 11 [.int .i64 (.negSucc 0)]) false false)
def q848 : Qe := (848, .cells ([zc 5, zc 0, zc 65, zc 71, zc 141, zc 238, zc 69, zc 1, zc 0, zc 0, zc 0] ++ rp 117 [zc 255]) false false)
def q1101 : Qe := (1101, .cells ([zc 5, zc 0, zc 65, zc 71, zc 141, zc 238, zc 69, zc 1, zc 0, zc 0, zc 0] ++ rp 117 [zc 255]) false false)
def q1354 : Qe := (1354, .cells ([zc 5, zc 0, zc 65, zc 71, zc 141, zc 238, zc 69, zc 1, zc 0, zc 0, zc 0] ++ rp 117 [zc 255]) false false)
def q1607 : Qe := (1607, .cells ([zc 5, zc 0, zc 65, zc 71, zc 141, zc 238, zc 69, zc 1, zc 0, zc 0, zc 0] ++ rp 117 [zc 255]) false false)
def q1860 : Qe := (1860, .cells ([zc 5, zc 0, zc 65, zc 71, zc 141, zc 238, zc 69, zc 1, zc 0, zc 0, zc 0] ++ rp 117 [zc 255]) false false)
def q2113 : Qe := (2113, .cells ([zc 5, zc 0, zc 65, zc 71, zc 141, zc 238, zc 69, zc 1, zc 0, zc 0, zc 0] ++ rp 117 [zc 255]) false false)
def q2366 : Qe := (2366, .cells ([zc 5, zc 0, zc 65, zc 71, zc 141, zc 238, zc 69, zc 1, zc 0, zc 0, zc 0] ++ rp 117 [zc 255]) false false)
def q2619 : Qe := (2619, .cells ([zc 5, zc 0, zc 65, zc 71, zc 141, zc 238, zc 69, zc 1, zc 0, zc 0, zc 0] ++ rp 117 [zc 255]) false false)
def q2872 : Qe := (2872, .cells ([zc 5, zc 0, zc 65, zc 71, zc 141, zc 238, zc 69, zc 1, zc 0, zc 0, zc 0] ++ rp 117 [zc 255]) false false)
def q3125 : Qe := (3125, .cells ([zc 5, zc 0, zc 65, zc 71, zc 141, zc 238, zc 69, zc 1, zc 0, zc 0, zc 0] ++ rp 117 [zc 255]) false false)
def q3378 : Qe := (3378, .cells ([zc 5, zc 0, zc 65, zc 71, zc 141, zc 238, zc 69, zc 1, zc 0, zc 0, zc 0] ++ rp 117 [zc 255]) false false)
def q3631 : Qe := (3631, .cells ([zc 5, zc 0, zc 65, zc 71, zc 141, zc 238, zc 69, zc 1, zc 0, zc 0, zc 0] ++ rp 117 [zc 255]) false false)
def q3884 : Qe := (3884, .cells ([zc 5, zc 0, zc 65, zc 71, zc 141, zc 238, zc 69, zc 1, zc 0, zc 0, zc 0] ++ rp 117 [zc 255]) false false)
def q4137 : Qe := (4137, .cells ([zc 5, zc 0, zc 65, zc 71, zc 141, zc 238, zc 69, zc 1, zc 0, zc 0, zc 0] ++ rp 117 [zc 255]) false false)
def q4390 : Qe := (4390, .cells ([zc 5, zc 0, zc 65, zc 71, zc 141, zc 238, zc 69, zc 1, zc 0, zc 0, zc 0] ++ rp 117 [zc 255]) false false)
def q4643 : Qe := (4643, .cells ([zc 5, zc 0, zc 65, zc 71, zc 141, zc 238, zc 69, zc 1, zc 0, zc 0, zc 0] ++ rp 117 [zc 255]) false false)
def q4644 : Qe := (4644, .cells [zi 0, .nils, .nils, .nils, .bool true] false false)
def q4645 : Qe := (4645, .cells [zi 16, .ptr 4644 0, zi 0] false false)
def q4646 : Qe := (4646, .map [] 0)
def q4647 : Qe := (4647, .map [] 0)
def q4648 : Qe := (4648, .map [⟨zi 0, .bool true, 0⟩] 1)
def q4649 : Qe := (4649, .cells [.ptr 296 0, .ptr 4652 0, .ptr 5011 0, .ptr 5012 0, .ptr 4645 0, .mp 4646, .mp 4647, .mp 4648, .int .u64 (.ofNat 1), zi 0] false false)
def q4652 : Qe := (4652, .cells [.ptr 296 0, .ptr 4985 0, .int .u64 (.ofNat 1), .str [48, 32, 48, 32, 48], zi 1] false false)
def q4977 : Qe := (4977, .cells ([zc 12, zc 0, zc 231, zc 64, zc 30, zc 162, zc 77] ++ rp 10 [zc 0] ++ [zc 1] ++ rp 110 [zc 255]) false false)
def q4981 : Qe := (4981, .cells ([zc 15, zc 0, zc 79, zc 228, zc 215, zc 36, zc 112, zc 117, zc 109, zc 105, zc 99, zc 101, zc 49, zc 16, zc 0, zc 16, zc 0, zc 128, zc 0, zc 2, zc 0, zc 14, zc 0, zc 84, zc 73, zc 109, zc 92, zc 82, zc 1] ++ rp 7 [zc 0] ++ [zc 48, zc 32, zc 48, zc 32, zc 48]) false false)
def q4985 : Qe := (4985, .cells [.ptr 296 0, zi 0, .sl 4990 0 128 128 (some 1), zi 1, .sl 5007 0 2 2 (some 2), zi 128, .bool false] false false)
def q4990 : Qe := (4990, .cells ([zc 15, zc 0, zc 79, zc 228, zc 215, zc 36, zc 112, zc 117, zc 109, zc 105, zc 99, zc 101, zc 49, zc 16, zc 0, zc 16, zc 0, zc 128, zc 0, zc 2, zc 0, zc 14, zc 0, zc 84, zc 73, zc 109, zc 92, zc 82, zc 1] ++ rp 7 [zc 0] ++ [zc 48, zc 32, zc 48, zc 32, zc 48] ++ rp 87 [zc 255]) false false)
def q4999 : Qe := (4999, .cells [zc 112, zc 117, zc 109, zc 105, zc 99, zc 101, zc 49, zc 16, zc 0, zc 16, zc 0, zc 128, zc 0, zc 2, zc 0] false false)
def q5004 : Qe := (5004, .cells ([zc 82, zc 1] ++ rp 7 [zc 0] ++ [zc 48, zc 32, zc 48, zc 32, zc 48]) false false)
def q5007 : Qe := (5007, .cells [zi 0, .sl 4999 0 15 15 (some 1), zi 21, .sl 5004 0 14 14 (some 1)] false false)
def q5010 : Qe := (5010, .map [] 0)
def q5011 : Qe := (5011, .cells [.ptr 296 0, .nilp, zi 0, zi 0, zi 0, .mp 5010] false false)
def q5012 : Qe := (5012, .cells [.ptr 296 0, .int .u64 (.ofNat 1), .nils, .nilp] false false)
def q5013 : Qe := (5013, .cells [.str [97], .str [49], .bool false, .str [98], .str [50], .bool false] false false)
def q4644_1 : Qe := (4644, .cells [zi 0, .sl 5490 0 2 2 (some 1), .sl 5491 0 2 2 (some 1), .nils, .bool true] false false)
def q4645_1 : Qe := (4645, .cells [zi 16, .ptr 4644 0, zi 2] false false)
def q4646_1 : Qe := (4646, .map [⟨.str [97], .agg [zi 1, zi 17], 0⟩, ⟨.str [98], .agg [zi 1, zi 28], 1⟩] 2)
def q4647_1 : Qe := (4647, .map [⟨.str [97], .bool true, 0⟩, ⟨.str [98], .bool true, 1⟩] 2)
def q4649_1 : Qe := (4649, .cells [.ptr 296 0, .ptr 4652 0, .ptr 5011 0, .ptr 5012 0, .ptr 4645 0, .mp 4646, .mp 4647, .mp 4648, .int .u64 (.ofNat 1), zi 134] false false)
def q5012_1 : Qe := (5012, .cells [.ptr 296 0, .int .u64 (.ofNat 1), .sl 5254 0 1 1 (some 1), .ptr 5210 0] false false)
def q5210 : Qe := (5210, .cells [.ptr 296 0, zi 1, .sl 5459 0 39 39 (some 1), zi 0, .sl 5463 0 3 3 (some 2), zi 39, .bool false] false false)
def q5250 : Qe := (5250, .cells ([zc 72, zc 1] ++ rp 9 [zc 0]) false false)
def q5254 : Qe := (5254, .cells [zi 1] false false)
def q5425 : Qe := (5425, .cells [zc 78, zc 0, zc 1, zc 97, zc 49] false false)
def q5459 : Qe := (5459, .cells ([zc 11, zc 0, zc 120, zc 34, zc 206, zc 232, zc 72, zc 1] ++ rp 9 [zc 0] ++ [zc 5, zc 0, zc 222, zc 33, zc 27, zc 13, zc 78, zc 0, zc 1, zc 97, zc 49, zc 5, zc 0, zc 44, zc 235, zc 54, zc 21, zc 78, zc 2, zc 1, zc 98, zc 50]) false false)
def q5461 : Qe := (5461, .cells [zc 78, zc 2, zc 1, zc 98, zc 50] false false)
def q5463 : Qe := (5463, .cells [zi 0, .sl 5250 0 11 11 (some 1), zi 17, .sl 5425 0 5 5 (some 1), zi 28, .sl 5461 0 5 5 (some 1)] false false)
def q5490 : Qe := (5490, .cells [.str [97], .str [98]] false false)
def q5491 : Qe := (5491, .cells [.str [49], .str [50]] false false)
def q104_2 : Qe := (104, .cells [.bool false, zi 1, .sl 106 0 16 16 none, zi 3, .bool false, zi 1, .sl 107 0 16 16 none, zi 3, .bool false, zi 1, .sl 108 0 16 16 none, zi 1, .bool false, zi 1, .sl 109 0 16 16 none, zi 1, .bool false, zi 1, .sl 110 0 16 16 none, zi 1, .bool false, zi 1, .sl 111 0 16 16 none, zi 1, .bool false, zi 1, .sl 112 0 16 16 none, zi 1, .bool false, zi 1, .sl 113 0 16 16 none, zi 1, .bool false, zi 1, .sl 114 0 16 16 none, zi 1, .bool false, zi 1, .sl 115 0 16 16 none, zi 1, .bool false, zi 1, .sl 116 0 16 16 none, zi 1, .bool false, zi 1, .sl 117 0 16 16 none, zi 1, .bool false, zi 1, .sl 118 0 16 16 none, zi 1, .bool false, zi 1, .sl 119 0 16 16 none, zi 1, .bool false, zi 1, .sl 120 0 16 16 none, zi 1, .bool false, zi 1, .sl 121 0 16 16 none, zi 1] false false)
def q105_2 : Qe := (105, .cells [zi 16, zi 16, zi 128, zi 2, .sl 104 0 16 16 none, .nils, zi 0, .bool false, zi 36, zi 0] false false)
def q107_2 : Qe := (107, .cells ([zi 1, .sl 1101 0 128 128 (some 1), zi 1, .sl 6165 0 128 128 (some 1), zi 1, .sl 6171 0 128 128 (some 1)] ++ rp 13 [zi 0, .nils]) false false)
def q6165 : Qe := (6165, .cells ([zc 12, zc 0, zc 242, zc 187, zc 236, zc 3, zc 77, zc 1, zc 0, zc 1] ++ rp 8 [zc 0] ++ rp 110 [zc 255]) false false)
def q6171 : Qe := (6171, .cells ([zc 11, zc 0, zc 120, zc 34, zc 206, zc 232, zc 72, zc 1] ++ rp 9 [zc 0] ++ [zc 5, zc 0, zc 222, zc 33, zc 27, zc 13, zc 78, zc 0, zc 1, zc 97, zc 49, zc 5, zc 0, zc 44, zc 235, zc 54, zc 21, zc 78, zc 2, zc 1, zc 98, zc 50, zc 4, zc 0, zc 196, zc 46, zc 103, zc 123, zc 78, zc 3, zc 1, zc 97] ++ rp 79 [zc 255]) false false)
def q6393 : Qe := (6393, .cells [zi 4, zi 1, zi 0, zi 1, .int .u64 (.ofNat 0), .bool false, zi 4, zi 1, zi 1, zi 1, .int .u64 (.ofNat 1), .bool false, zi 2, zi 1, zi 0, zi 0, .int .u64 (.ofNat 0), .bool false, zi 2, zi 1, zi 0, zi 0, .int .u64 (.ofNat 0), .bool false, zi 2, zi 1, zi 0, zi 0, .int .u64 (.ofNat 0), .bool false, zi 2, zi 1, zi 0, zi 0, .int .u64 (.ofNat 0), .bool false, zi 2, zi 1, zi 0, zi 0, .int .u64 (.ofNat 0), .bool false, zi 2, zi 1, zi 0, zi 0, .int .u64 (.ofNat 0), .bool false, zi 2, zi 1, zi 0, zi 0, .int .u64 (.ofNat 0), .bool false, zi 2, zi 1, zi 0, zi 0, .int .u64 (.ofNat 0), .bool false, zi 2, zi 1, zi 0, zi 0, .int .u64 (.ofNat 0), .bool false, zi 2, zi 1, zi 0, zi 0, .int .u64 (.ofNat 0), .bool false, zi 2, zi 1, zi 0, zi 0, .int .u64 (.ofNat 0), .bool false, zi 2, zi 1, zi 0, zi 0, .int .u64 (.ofNat 0), .bool false, zi 2, zi 1, zi 0, zi 0, .int .u64 (.ofNat 0), .bool false, zi 2, zi 1, zi 0, zi 0, .int .u64 (.ofNat 0), .bool false] false false)
def q6459 : Qe := (6459, .cells [.ptr 105 0, zi 16, zi 16, zi 128, zi 2, .sl 6393 0 16 16 (some 6), .sl 6462 0 12 12 none, .int .u64 (.ofNat 2), .bool false] false false)
def q6462 : Qe := (6462, .cells ([zi 0, zi 1] ++ rp 10 [.int .i64 (.negSucc 0)]) false false)
def q6756 : Qe := (6756, .map [⟨.str [97], .bool true, 0⟩, ⟨.str [98], .bool true, 1⟩] 2)
def q7165 : Qe := (7165, .cells [.mp 6756] false false)
def q7173 : Qe := (7173, .cells [.str [97], .str [98]] false false)
def q6758 : Qe := (6758, .cells [.ptr 6459 0, .ptr 6805 0, .ptr 6821 0, .ptr 7164 0, .ptr 6754 0, .mp 6755, .mp 6756, .mp 6827, .int .u64 (.ofNat 1), zi 67] false false)
def q6827 : Qe := (6827, .map [⟨zi 0, .bool true, 0⟩, ⟨zi 1, .bool true, 1⟩] 2)
def q7164 : Qe := (7164, .cells [.ptr 6459 0, .int .u64 (.ofNat 1), .nils, .nilp] false false)
def q7223 : Qe := (7223, .cells [zi 2, zi 3, zi 4, zi 5, zi 6, zi 7, zi 8, zi 9, zi 10, zi 11] false false)
def qa1 : List Qe := []
def qL1 : List Qe := qa1 ++ [q1, q104, q105, q106, q107, q108, q109, q110, q111, q112, q113, q114, q115, q116, q117, q118, q119, q120, q121]
def qR1 : List Qe := qa1 ++ [q104_1, q105_1, q106_1, q107_1, q108_1, q109_1, q110_1, q111_1, q112_1, q113_1, q114_1, q115_1, q116_1, q117_1, q118_1, q119_1, q120_1, q121_1, q234, q296, q299, q848, q1101, q1354, q1607, q1860, q2113, q2366, q2619, q2872, q3125, q3378, q3631, q3884, q4137, q4390, q4643, q4644, q4645, q4646, q4647, q4648, q4649, q4652, q4977, q4981, q4985, q4990, q4999, q5004, q5007, q5010, q5011, q5012]
def qs1 : Sum := sLoc [.ptr 105 0] qL1 122 (.tup [.ptr 4649 0, zi 0]) qR1 5013
theorem qok1 : locOk qL1 122 qR1 5013 = true := by kernel_rfl
def qa2 : List Qe := [q105_1, q234, q296, q299, q4648, q5013]
def qL2 : List Qe := qa2 ++ [q4644, q4645, q4646, q4647, q4649, q5012]
def qR2 : List Qe := qa2 ++ [q4644_1, q4645_1, q4646_1, q4647_1, q4649_1, q5012_1, q5210, q5250, q5254, q5425, q5459, q5461, q5463, q5490, q5491]
def qs2 : Sum := sLoc [.ptr 4649 0, .sl 5013 0 2 2 none] qL2 5014 (zi 0) qR2 5492
theorem qok2 : locOk qL2 5014 qR2 5492 = true := by kernel_rfl
def qa3 : List Qe := [q104_2, q105_2, q106_1, q107_2, q108_1, q109_1, q110_1, q111_1, q112_1, q113_1, q114_1, q115_1, q116_1, q117_1, q118_1, q119_1, q120_1, q121_1, q848, q1101, q1354, q1607, q1860, q2113, q2366, q2619, q2872, q3125, q3378, q3631, q3884, q4137, q4390, q4643, q4977, q4981, q6165, q6171]
def qL3 : List Qe := qa3 ++ [q1]
def qR3 : List Qe := qa3 ++ [q6393, q6459, q6462]
def qs3 : Sum := sLoc [.ptr 105 0] qL3 6173 (.tup [.ptr 6459 0, zi 0]) qR3 6753
theorem qok3 : locOk qL3 6173 qR3 6753 = true := by kernel_rfl
def qa4 : List Qe := [q6756, q7165]
def qL4 : List Qe := qa4 ++ []
def qR4 : List Qe := qa4 ++ [q7173]
def qs4 : Sum := sLoc [.fn (.func 204) [] [.ptr 7165 0]] qL4 7166 (.sl 7173 0 2 2 (some 1)) qR4 7174
theorem qok4 : locOk qL4 7166 qR4 7174 = true := by kernel_rfl
def qa5 : List Qe := [q6459, q6758, q6827, q7164]
def qL5 : List Qe := qa5 ++ []
def qR5 : List Qe := qa5 ++ [q7223]
def qs5 : Sum := sLoc [.ptr 6758 0] qL5 7189 (.sl 7223 0 10 10 (some 1)) qR5 7224
theorem qok5 : locOk qL5 7189 qR5 7224 = true := by kernel_rfl
end
end Go.Abm.Seat
