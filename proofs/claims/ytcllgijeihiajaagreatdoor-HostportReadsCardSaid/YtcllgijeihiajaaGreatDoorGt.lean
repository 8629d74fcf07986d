/- The functions that the plain texts speak of. -/
import Derived.Test.YtcllgijeihiajaaGreatDoorGs
import Derived.Test.YtcllgijeihiajaaGreatDoorG5
