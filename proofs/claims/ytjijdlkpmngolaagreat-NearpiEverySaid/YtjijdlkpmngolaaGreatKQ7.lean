import Derived.Test.YtjijdlkpmngolaaGreatKM
namespace Go.Proofs.YtjijdlkpmngolaaGreat.G
open Go.Gv
theorem Ll:pY 910 126=true:=by kernel_rfl
end Go.Proofs.YtjijdlkpmngolaaGreat.G
