import Derived.Test.YtelmicicapbgeaaKC3
namespace Go.Proofs.Ytelmicicapbgeaa.G
open Go.Gv
theorem Hc:nM 910 126=true:=by kernel_rfl
end Go.Proofs.Ytelmicicapbgeaa.G
