import Derived.Test.YtoldbfndmaglmaaGreatDoorBNA
import Derived.Test.YtoldbfndmaglmaaGreatDoorBNE
set_option linter.all false
namespace Go.Proofs.YtoldbfndmaglmaaGreatDoor
open Go.Chi Go.Ev
set_option maxRecDepth 1000000 in
theorem conf_no : isT (evM.call 3 [.agg ⟨[.float .f64 2, .float .f64 3, .float .f64 4, .float .f64 5]⟩] .nil 3) = true := by decide +kernel
set_option maxRecDepth 1000000 in
theorem conf_0_1 : okConf 0 1 = true := by decide +kernel
set_option maxRecDepth 1000000 in
theorem conf_0_2 : okConf 0 2 = true := by decide +kernel
set_option maxRecDepth 1000000 in
theorem conf_1_2 : okConf 1 2 = true := by decide +kernel
set_option maxRecDepth 1000000 in
theorem conf_0_3 : okConf 0 3 = true := by decide +kernel
set_option maxRecDepth 1000000 in
theorem conf_1_3 : okConf 1 3 = true := by decide +kernel
set_option maxRecDepth 1000000 in
theorem conf_2_3 : okConf 2 3 = true := by decide +kernel
set_option maxRecDepth 1000000 in
theorem conf_0_4 : okConf 0 4 = true := by decide +kernel
set_option maxRecDepth 1000000 in
theorem conf_1_4 : okConf 1 4 = true := by decide +kernel
set_option maxRecDepth 1000000 in
theorem conf_2_4 : okConf 2 4 = true := by decide +kernel
set_option maxRecDepth 1000000 in
theorem conf_3_4 : okConf 3 4 = true := by decide +kernel
set_option maxRecDepth 1000000 in
theorem conf_0_5 : okConf 0 5 = true := by decide +kernel
set_option maxRecDepth 1000000 in
theorem conf_1_5 : okConf 1 5 = true := by decide +kernel
set_option maxRecDepth 1000000 in
theorem conf_2_5 : okConf 2 5 = true := by decide +kernel
set_option maxRecDepth 1000000 in
theorem conf_3_5 : okConf 3 5 = true := by decide +kernel
set_option maxRecDepth 1000000 in
theorem conf_4_5 : okConf 4 5 = true := by decide +kernel
end Go.Proofs.YtoldbfndmaglmaaGreatDoor
