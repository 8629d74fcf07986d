/- The functions that the plain texts speak of. -/
import Derived.Test.YtecolkjlpklaaaaDoorGt
import Derived.Test.YtecolkjlpklaaaaDoorH7
