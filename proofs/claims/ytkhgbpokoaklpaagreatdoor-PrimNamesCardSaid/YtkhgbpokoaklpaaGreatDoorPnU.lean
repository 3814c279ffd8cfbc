/- The law at every name that is none of those known: one run of the evaluator, the name a sign alone. -/
import Derived.Test.YtkhgbpokoaklpaaGreatDoorPnC
namespace Go.Proofs.YtkhgbpokoaklpaaGreatDoor
open Go Go.AM
def knowns : List Known := k18 :: k20 :: k21 :: k94 :: (cuts ++ prims ++ ctls ++ effs0 ++ effs1 ++ effs2 ++ effs3)
noncomputable def E2 : Env := { E0 with known := knowns }
def nameL : List (List UInt8) := [[100, 117, 112], [100, 114, 111, 112], [115, 119, 97, 112], [111, 118, 101, 114], [114, 111, 116], [110, 105, 112], [116, 117, 99, 107], [43], [45], [42], [47], [109, 111, 100], [110, 101, 103], [97, 98, 115], [109, 105, 110], [109, 97, 120], [60], [62], [61], [97, 110, 100], [111, 114], [110, 111, 116], [105, 110, 116, 63], [115, 116, 114, 63], [98, 111, 111, 108, 63], [108, 105, 115, 116, 63], [113, 117, 111, 116, 63], [98, 111, 120, 63], [108, 101, 110, 103, 116, 104], [97, 112, 112, 101, 110, 100], [110, 116, 104], [115, 108, 105, 99, 101], [119, 114, 97, 112], [112, 97, 105, 114], [117, 110, 112, 97, 105, 114], [114, 101, 118, 101, 114, 115, 101], [99, 117, 114, 114, 121], [99, 111, 109, 112, 111, 115, 101], [62, 115, 116, 114], [62, 105, 110, 116], [99, 97, 108, 108], [100, 105, 112], [107, 101, 101, 112], [105, 102], [119, 104, 101, 110], [116, 105, 109, 101, 115], [101, 97, 99, 104], [108, 111, 111, 112], [98, 111, 120], [103, 101, 116], [112, 117, 116], [46]]
noncomputable def E3 : Env := { mkEnv Tryz.prog nameL with ng := 1, known := knowns }
def okOf (r : Option (Value × St)) : Bool := match r with
  | some (.bool true, _) => true
  | _ => false
set_option maxRecDepth 1000000
set_option maxHeartbeats 0
theorem unknown_run (f : Nat → TypeId) : okOf ((big E3 100000).call 5 [.float .f64 0] (startSt 1 (withEl f [asc]))) = true := by kernel_rfl
end Go.Proofs.YtkhgbpokoaklpaaGreatDoor
