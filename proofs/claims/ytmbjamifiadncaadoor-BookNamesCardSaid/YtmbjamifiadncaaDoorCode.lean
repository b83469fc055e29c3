/- The code of all functions. -/
import Derived.Test.YtmbjamifiadncaaDoorCode0
import Derived.Test.YtmbjamifiadncaaDoorCode1
