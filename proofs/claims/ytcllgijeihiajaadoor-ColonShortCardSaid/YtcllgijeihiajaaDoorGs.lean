/- The functions that the plain texts speak of. -/
import Derived.Test.YtcllgijeihiajaaDoorG1
import Derived.Test.YtcllgijeihiajaaDoorG2
import Derived.Test.YtcllgijeihiajaaDoorG3
