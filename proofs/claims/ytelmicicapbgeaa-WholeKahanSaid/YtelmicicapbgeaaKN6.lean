import Derived.Test.YtelmicicapbgeaaKC3
namespace Go.Proofs.Ytelmicicapbgeaa.G
open Go.Gv
theorem Hb:nM 780 130=true:=by kernel_rfl
end Go.Proofs.Ytelmicicapbgeaa.G
