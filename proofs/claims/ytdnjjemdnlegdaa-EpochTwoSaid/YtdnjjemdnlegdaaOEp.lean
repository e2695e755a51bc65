/-
  The epoch laws' walks, with what opens their arguments.
-/
import Derived.Test.YtdnjjemdnlegdaaOpen
import Derived.Test.YtdnjjemdnlegdaaEl1
