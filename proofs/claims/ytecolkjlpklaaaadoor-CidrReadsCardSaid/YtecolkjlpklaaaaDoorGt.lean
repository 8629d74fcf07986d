/- The functions that the plain texts speak of. -/
import Derived.Test.YtecolkjlpklaaaaDoorGs
import Derived.Test.YtecolkjlpklaaaaDoorH6
