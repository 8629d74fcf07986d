/- The functions that the plain texts speak of. -/
import Derived.Test.YthccncpephpdjaaU1
