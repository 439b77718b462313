/- Texts of this work, joined: F. -/
import Derived.Test.YtjijdlkpmngolaaGreatKF0
import Derived.Test.YtjijdlkpmngolaaGreatKF1
import Derived.Test.YtjijdlkpmngolaaGreatKF2
/- All functions. -/
