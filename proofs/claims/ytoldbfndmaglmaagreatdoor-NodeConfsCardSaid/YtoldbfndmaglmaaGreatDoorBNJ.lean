import Derived.Test.YtoldbfndmaglmaaGreatDoorBNE
set_option linter.all false
namespace Go.Proofs.YtoldbfndmaglmaaGreatDoor
open Go.Chi Go.Ev
set_option maxRecDepth 1000000 in
theorem conf_0_8 : okConf 0 8 = true := by decide +kernel
set_option maxRecDepth 1000000 in
theorem conf_1_8 : okConf 1 8 = true := by decide +kernel
set_option maxRecDepth 1000000 in
theorem conf_2_8 : okConf 2 8 = true := by decide +kernel
set_option maxRecDepth 1000000 in
theorem conf_3_8 : okConf 3 8 = true := by decide +kernel
end Go.Proofs.YtoldbfndmaglmaaGreatDoor
