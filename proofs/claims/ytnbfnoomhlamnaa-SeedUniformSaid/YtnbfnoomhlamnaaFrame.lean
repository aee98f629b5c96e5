/- What a row asks behind a call that leaves all that was there as it was: the engine's Frame. -/
import Derived.Test.YtnbfnoomhlamnaaEng3
import Derived.Test.YtnbfnoomhlamnaaRows
