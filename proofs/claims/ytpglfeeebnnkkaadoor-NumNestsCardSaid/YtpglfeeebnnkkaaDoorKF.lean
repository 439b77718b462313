/- Texts of this work, joined: F. -/
import Derived.Test.YtpglfeeebnnkkaaDoorKF0
import Derived.Test.YtpglfeeebnnkkaaDoorKF1
/- All functions. -/
