/- All functions. -/
import Derived.Test.YtnbpbojcjihboaaDoorFp0
import Derived.Test.YtnbpbojcjihboaaDoorFp1
