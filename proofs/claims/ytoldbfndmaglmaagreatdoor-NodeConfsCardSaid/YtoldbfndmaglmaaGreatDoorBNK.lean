import Derived.Test.YtoldbfndmaglmaaGreatDoorBNE
set_option linter.all false
namespace Go.Proofs.YtoldbfndmaglmaaGreatDoor
open Go.Chi Go.Ev
set_option maxRecDepth 1000000 in
theorem conf_4_8 : okConf 4 8 = true := by decide +kernel
set_option maxRecDepth 1000000 in
theorem conf_5_8 : okConf 5 8 = true := by decide +kernel
set_option maxRecDepth 1000000 in
theorem conf_6_8 : okConf 6 8 = true := by decide +kernel
set_option maxRecDepth 1000000 in
theorem conf_7_8 : okConf 7 8 = true := by decide +kernel
end Go.Proofs.YtoldbfndmaglmaaGreatDoor
