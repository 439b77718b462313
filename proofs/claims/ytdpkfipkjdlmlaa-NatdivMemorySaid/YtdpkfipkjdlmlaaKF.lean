/- Texts of this work, joined: F. -/
import Derived.Test.YtdpkfipkjdlmlaaKF0
import Derived.Test.YtdpkfipkjdlmlaaKF1
import Derived.Test.YtdpkfipkjdlmlaaKF2
/- All functions. -/
