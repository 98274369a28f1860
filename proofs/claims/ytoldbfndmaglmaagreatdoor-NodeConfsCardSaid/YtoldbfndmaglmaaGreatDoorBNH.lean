import Derived.Test.YtoldbfndmaglmaaGreatDoorBNE
set_option linter.all false
namespace Go.Proofs.YtoldbfndmaglmaaGreatDoor
open Go.Chi Go.Ev
set_option maxRecDepth 1000000 in
theorem conf_0_7 : okConf 0 7 = true := by decide +kernel
set_option maxRecDepth 1000000 in
theorem conf_1_7 : okConf 1 7 = true := by decide +kernel
set_option maxRecDepth 1000000 in
theorem conf_2_7 : okConf 2 7 = true := by decide +kernel
set_option maxRecDepth 1000000 in
theorem conf_3_7 : okConf 3 7 = true := by decide +kernel
end Go.Proofs.YtoldbfndmaglmaaGreatDoor
