import Derived.Test.YtelmicicapbgeaaKC3
namespace Go.Proofs.Ytelmicicapbgeaa.G
open Go.Gv
theorem G6:nM 130 130=true:=by kernel_rfl
end Go.Proofs.Ytelmicicapbgeaa.G
