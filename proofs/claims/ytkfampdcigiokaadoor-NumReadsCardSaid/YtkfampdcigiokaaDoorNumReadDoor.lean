/-
  The law NumReads, and what the laid tables give.
-/
import Derived.Test.YtkfampdcigiokaaDoorNumRefRead
import Derived.Test.YtkfampdcigiokaaDoorNumDoor
