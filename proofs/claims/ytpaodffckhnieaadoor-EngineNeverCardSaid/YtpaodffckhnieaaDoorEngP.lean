/-
  The walk's texts and those that open, under one name. No condition.
-/
import Derived.Test.YtpaodffckhnieaaDoorEngE
import Derived.Test.YtpaodffckhnieaaDoorOpen
