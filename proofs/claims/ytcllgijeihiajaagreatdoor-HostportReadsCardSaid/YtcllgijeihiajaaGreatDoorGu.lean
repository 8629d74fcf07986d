/- The functions that the plain texts speak of. -/
import Derived.Test.YtcllgijeihiajaaGreatDoorGt
import Derived.Test.YtcllgijeihiajaaGreatDoorG6
