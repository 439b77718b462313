/- Texts of this work, joined: F. -/
import Derived.Test.YtabkkcbpckcfnaaDoorKF0
import Derived.Test.YtabkkcbpckcfnaaDoorKF1
/- All functions. -/
