import Derived.Test.YtjijdlkpmngolaaGreatKM
namespace Go.Proofs.YtjijdlkpmngolaaGreat.G
open Go.Gv
theorem MT:q7 910 126=true:=by kernel_rfl
end Go.Proofs.YtjijdlkpmngolaaGreat.G
