import Derived.Test.YtjijdlkpmngolaaGreatKM
set_option linter.unusedVariables false
namespace Go.Proofs.YtjijdlkpmngolaaGreat.G
open Go.Gv
theorem MT:q7 910 126=true:=by kernel_rfl
end Go.Proofs.YtjijdlkpmngolaaGreat.G
