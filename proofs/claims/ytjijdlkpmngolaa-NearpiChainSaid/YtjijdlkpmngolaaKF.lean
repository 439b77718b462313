/- Texts of this work, joined: F. -/
import Derived.Test.YtjijdlkpmngolaaKF0
import Derived.Test.YtjijdlkpmngolaaKF1
/- All functions. -/
