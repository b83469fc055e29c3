/- The code of all functions. -/
import Derived.Test.YtofbhhncpjegfaaCode0
import Derived.Test.YtofbhhncpjegfaaCode1
