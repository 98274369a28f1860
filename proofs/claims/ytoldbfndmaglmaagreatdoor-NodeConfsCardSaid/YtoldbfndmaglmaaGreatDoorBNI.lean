import Derived.Test.YtoldbfndmaglmaaGreatDoorBNE
set_option linter.all false
namespace Go.Proofs.YtoldbfndmaglmaaGreatDoor
open Go.Chi Go.Ev
set_option maxRecDepth 1000000 in
theorem conf_4_7 : okConf 4 7 = true := by decide +kernel
set_option maxRecDepth 1000000 in
theorem conf_5_7 : okConf 5 7 = true := by decide +kernel
set_option maxRecDepth 1000000 in
theorem conf_6_7 : okConf 6 7 = true := by decide +kernel
end Go.Proofs.YtoldbfndmaglmaaGreatDoor
