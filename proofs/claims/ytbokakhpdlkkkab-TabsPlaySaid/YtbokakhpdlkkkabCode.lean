/-
  The functions of the program, all together.
-/
import Derived.Test.YtbokakhpdlkkkabCodeA
import Derived.Test.YtbokakhpdlkkkabCodeB
