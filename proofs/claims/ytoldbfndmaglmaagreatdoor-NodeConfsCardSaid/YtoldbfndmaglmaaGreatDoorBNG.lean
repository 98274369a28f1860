import Derived.Test.YtoldbfndmaglmaaGreatDoorBNE
set_option linter.all false
namespace Go.Proofs.YtoldbfndmaglmaaGreatDoor
open Go.Chi Go.Ev
set_option maxRecDepth 1000000 in
theorem conf_0_6 : okConf 0 6 = true := by decide +kernel
set_option maxRecDepth 1000000 in
theorem conf_1_6 : okConf 1 6 = true := by decide +kernel
set_option maxRecDepth 1000000 in
theorem conf_2_6 : okConf 2 6 = true := by decide +kernel
set_option maxRecDepth 1000000 in
theorem conf_3_6 : okConf 3 6 = true := by decide +kernel
set_option maxRecDepth 1000000 in
theorem conf_4_6 : okConf 4 6 = true := by decide +kernel
set_option maxRecDepth 1000000 in
theorem conf_5_6 : okConf 5 6 = true := by decide +kernel
end Go.Proofs.YtoldbfndmaglmaaGreatDoor
