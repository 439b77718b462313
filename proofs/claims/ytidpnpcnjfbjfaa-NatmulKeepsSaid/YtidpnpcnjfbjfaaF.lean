/- All functions. -/
import Derived.Test.YtidpnpcnjfbjfaaFp0
import Derived.Test.YtidpnpcnjfbjfaaFp1
import Derived.Test.YtidpnpcnjfbjfaaFp2
