/-
  The functions of the program, all together.
-/
import Derived.Test.YtcfjjeipdacbcaaDoorCodeA
import Derived.Test.YtcfjjeipdacbcaaDoorCodeB
