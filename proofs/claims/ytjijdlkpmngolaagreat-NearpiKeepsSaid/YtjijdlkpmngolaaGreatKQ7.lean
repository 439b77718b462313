import Derived.Test.YtjijdlkpmngolaaGreatKM
set_option linter.unusedVariables false
namespace Go.Proofs.YtjijdlkpmngolaaGreat.G
open Go.Gv
theorem NW:sC 910 126=true:=by kernel_rfl
end Go.Proofs.YtjijdlkpmngolaaGreat.G
