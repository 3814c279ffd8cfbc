/- The program's own answer for each name, reckoned once. -/
import Derived.Test.YtkhgbpokoaklpaaGreatDoorPnB
namespace Go.Proofs.YtkhgbpokoaklpaaGreatDoor
open Go Go.AM

def eOf (n : List UInt8) (i o : Int) (ok : Bool) : Known := { f := 48, args := [bs n], looks := [asc], v := .tuple #[.agg #[.int .i64 i, .int .i64 o], .bool ok], cnt := 2000, objs := [] }
def effs0 : List Known := [eOf [100, 117, 112] 1 2 true, eOf [100, 114, 111, 112] 1 0 true, eOf [115, 119, 97, 112] 2 2 true, eOf [111, 118, 101, 114] 2 3 true, eOf [114, 111, 116] 3 3 true, eOf [110, 105, 112] 2 1 true, eOf [116, 117, 99, 107] 2 3 true, eOf [43] 2 1 true, eOf [45] 2 1 true, eOf [42] 2 1 true, eOf [47] 2 1 true, eOf [109, 111, 100] 2 1 true, eOf [110, 101, 103] 1 1 true]
def effs1 : List Known := [eOf [97, 98, 115] 1 1 true, eOf [109, 105, 110] 2 1 true, eOf [109, 97, 120] 2 1 true, eOf [60] 2 1 true, eOf [62] 2 1 true, eOf [61] 2 1 true, eOf [97, 110, 100] 2 1 true, eOf [111, 114] 2 1 true, eOf [110, 111, 116] 1 1 true, eOf [105, 110, 116, 63] 1 1 true, eOf [115, 116, 114, 63] 1 1 true, eOf [98, 111, 111, 108, 63] 1 1 true, eOf [108, 105, 115, 116, 63] 1 1 true]
def effs2 : List Known := [eOf [113, 117, 111, 116, 63] 1 1 true, eOf [98, 111, 120, 63] 1 1 true, eOf [108, 101, 110, 103, 116, 104] 1 1 true, eOf [97, 112, 112, 101, 110, 100] 2 1 true, eOf [110, 116, 104] 2 1 true, eOf [115, 108, 105, 99, 101] 3 1 true, eOf [119, 114, 97, 112] 1 1 true, eOf [112, 97, 105, 114] 2 1 true, eOf [117, 110, 112, 97, 105, 114] 1 2 true, eOf [114, 101, 118, 101, 114, 115, 101] 1 1 true, eOf [99, 117, 114, 114, 121] 2 1 true, eOf [99, 111, 109, 112, 111, 115, 101] 2 1 true, eOf [62, 115, 116, 114] 1 1 true]
def effs3 : List Known := [eOf [62, 105, 110, 116] 1 1 true, eOf [99, 97, 108, 108] 0 0 false, eOf [100, 105, 112] 0 0 false, eOf [107, 101, 101, 112] 0 0 false, eOf [105, 102] 0 0 false, eOf [119, 104, 101, 110] 0 0 false, eOf [116, 105, 109, 101, 115] 0 0 false, eOf [101, 97, 99, 104] 0 0 false, eOf [108, 111, 111, 112] 0 0 false, eOf [98, 111, 120] 1 1 true, eOf [103, 101, 116] 1 1 true, eOf [112, 117, 116] 2 0 true, eOf [46] 1 0 true]
set_option maxRecDepth 1000000
set_option maxHeartbeats 0
theorem effs0_run (f : Nat → TypeId) : effs0.all (runOf E1 f) = true := by kernel_rfl
theorem effs1_run (f : Nat → TypeId) : effs1.all (runOf E1 f) = true := by kernel_rfl
theorem effs2_run (f : Nat → TypeId) : effs2.all (runOf E1 f) = true := by kernel_rfl
theorem effs3_run (f : Nat → TypeId) : effs3.all (runOf E1 f) = true := by kernel_rfl
end Go.Proofs.YtkhgbpokoaklpaaGreatDoor
