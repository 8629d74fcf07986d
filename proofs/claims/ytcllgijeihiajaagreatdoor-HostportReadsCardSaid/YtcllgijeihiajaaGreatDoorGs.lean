/- The functions that the plain texts speak of. -/
import Derived.Test.YtcllgijeihiajaaGreatDoorG1
import Derived.Test.YtcllgijeihiajaaGreatDoorG2
import Derived.Test.YtcllgijeihiajaaGreatDoorG3
import Derived.Test.YtcllgijeihiajaaGreatDoorG4
