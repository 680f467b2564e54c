/-
  The functions of the program, all together.
-/
import Derived.Test.YteockjhckmlclaaCodeA
import Derived.Test.YteockjhckmlclaaCodeB
