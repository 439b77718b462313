/- Texts of this work, joined: F. -/
import Derived.Test.YtanlcacaihdceaaGreatDoorKF0
import Derived.Test.YtanlcacaihdceaaGreatDoorKF1
import Derived.Test.YtanlcacaihdceaaGreatDoorKF2
/- All functions. -/
